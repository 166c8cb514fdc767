/- A timer is stopped. -/
import Derived.Test.YtklpdkojffaiiaaWheelT
import Derived.Test.YtklpdkojffaiiaaRound
import Derived.Test.YtklpdkojffaiiaaPutA
namespace Go.Proofs.Ytklpdkojffaiiaa
open Go.RowKit Go.Shelf
set_option maxRecDepth 100000
attribute [local go_sem] Oper.semAt_some

/-- what a stop makes of a wheel -/
def Wh.Stopped (M : Wh.Wl) (id : Int) (M' : Wh.Wl) (b : Bool) : Prop := (b = false ∧ M.has id = false ∧ M' = M) ∨ (b = true ∧ ∃ q i, q < 449 ∧ i < (M.L q).length ∧ ((M.L q).getD i Wh.Tm.zero).id = id ∧ M' = { M.upd q ((M.L q).eraseIdx i) with n := M.n - 1 })

namespace Wh
theorem sl_hm (g n cap k : Nat) (hk : k ≤ cap) (w : World) : (Instr.slice 47 (.slice (some ⟨g, 0, none⟩) n cap) none (some (.int .i64 k)) (some (.int .i64 k))).run Try.prog w = .ok (.slice (some ⟨g, 0, none⟩) k k) w := by
  have hrun := run_slice_hm (P := Try.prog) (w := w) 47 (some ⟨g, 0, none⟩) n cap (by kernel_rfl) .i64 .i64 (k : Int) (k : Int) (by omega) (by omega) (by omega)
  have hz : (sizeOf (Try.prog.elem 47)).run Try.prog w = .ok 3 w := by kernel_rfl
  rw [hrun, hz]
  simp only [Result.andThen, Int.toNat_natCast, sliced, Nat.zero_mul, Nat.sub_zero, Option.map_some, Addr.add_lit]
  split <;> rfl
theorem sl_l (g n cap k : Nat) (hk : k ≤ n) (w : World) : (Instr.slice 47 (.slice (some ⟨g, 0, none⟩) n cap) (some (.int .i64 k)) none none).run Try.prog w = .ok (sliced (some ⟨g, 0, none⟩) k n cap 3) w := by
  have hrun := run_slice_l (P := Try.prog) (w := w) 47 (some ⟨g, 0, none⟩) n cap (by kernel_rfl) .i64 (k : Int) (by omega) (by omega)
  have hz : (sizeOf (Try.prog.elem 47)).run Try.prog w = .ok 3 w := by kernel_rfl
  rw [hrun, hz]
  simp only [Result.andThen, Int.toNat_natCast]
theorem exec_hm {P : Program} {ρ : Operand → Value} {o : Oper} {t : TypeId} {x l u : Operand} {v v1 v2 v3 : Value} {w : World} (ho : o.op = .slice t x none (some l) (some u)) (hx : ρ x = v1) (hl : ρ l = v2) (hu : ρ u = v3) (ht : P.underlying t = some (.slice (P.elem t))) (h : (Instr.slice t v1 none (some v2) (some v3)).run P w = .ok v w) : (execOp ρ o).run P w = .ok (.value v) w := by
  unfold execOp
  simp only [ho, Option.map_some, Option.map_none, hx, hl, hu, Sem.run_bind, run_sliceAt_slice (w := w) t _ _ _ _ ht, h, Result.andThen, Sem.run_pure]
theorem exec_l {P : Program} {ρ : Operand → Value} {o : Oper} {t : TypeId} {x l : Operand} {v v1 v2 : Value} {w : World} (ho : o.op = .slice t x (some l) none none) (hx : ρ x = v1) (hl : ρ l = v2) (ht : P.underlying t = some (.slice (P.elem t))) (h : (Instr.slice t v1 (some v2) none none).run P w = .ok v w) : (execOp ρ o).run P w = .ok (.value v) w := by
  unfold execOp
  simp only [ho, Option.map_some, Option.map_none, hx, hl, Sem.run_bind, run_sliceAt_slice (w := w) t _ _ _ _ ht, h, Result.andThen, Sem.run_pure]
theorem WheelAt.free_loc {w : World} {base p r0 r1 r2 : Nat} {X : Nat → Prop} {M : Wl} (h : WheelAt w base X p r0 r1 r2 M) (q : Nat) : w.frozen? (loc p r0 r1 r2 q) = false := by
  obtain ⟨c, h1, _⟩ := h.bp
  obtain ⟨c0, k0, _⟩ := h.b0
  obtain ⟨c1, k1, _⟩ := h.b1
  obtain ⟨c2, k2, _⟩ := h.b2
  unfold loc
  split
  · exact k0.free _
  split
  · exact k1.free _
  split
  · exact k2.free _
  · exact h1.free _
theorem p_free {w : World} {base p r0 r1 r2 : Nat} {X : Nat → Prop} {M : Wl} (h : WheelAt w base X p r0 r1 r2 M) (i : Nat) : w.frozen? ⟨p, i, none⟩ = false := by
  obtain ⟨c, h1, _⟩ := h.bp
  exact h1.free _
theorem WheelAt.loc_lt {w : World} {base p r0 r1 r2 : Nat} {X : Nat → Prop} {M : Wl} (h : WheelAt w base X p r0 r1 r2 M) (q : Nat) : (loc p r0 r1 r2 q).block < w.heap.size := by
  obtain ⟨c, h1, _⟩ := h.bp
  obtain ⟨c0, k0, _⟩ := h.b0
  obtain ⟨c1, k1, _⟩ := h.b1
  obtain ⟨c2, k2, _⟩ := h.b2
  rcases loc_block (p := p) (r0 := r0) (r1 := r1) (r2 := r2) q with e | e | e | e <;> rw [e]
  · exact h1.lt
  · exact k0.lt
  · exact k1.lt
  · exact k2.lt
end Wh
set_option maxHeartbeats 4000000 in
theorem stop_at (w : World) (base p r0 r1 r2 : Nat) (X : Nat → Prop) (M : Wh.Wl) (h : Wh.WheelAt w base X p r0 r1 r2 M) (id : Int) (hn0 : 0 ≤ M.n) (hn1 : M.n ≤ 1000000) :
    Calls Try.prog 13 #[.pointer (some ⟨p, 0, none⟩), .int .i64 id] w fun e w' => ∃ b M', e = .returned (.bool b) ∧ Wh.Stopped M id M' b ∧ Wh.WheelAt w' base X p r0 r1 r2 M' ∧ Only (fun k => base ≤ k ∧ ¬ X k) w w' := by
  refine (callsIn_wide (n := 3)).1 ?_
  refine callsIn_of_wp_marks Try.func13 rfl trivial ?_ rfl
  simp only [Try.ntmps13, List.size_toArray, List.length_cons, List.length_nil, Nat.reduceAdd, Nat.reduceSub, Array.replicate_succ, Array.replicate_zero, List.push_toArray, List.append_toArray, List.nil_append, List.cons_append]
  have hn := (((Only.refl NoBlock w).alloc (Obj.cells #[.pointer (some ⟨p, 0, none⟩)] 23)).alloc (Obj.cells #[.int .i64 id] 3)).alloc (Obj.cells #[.bool false] 4)
  have cw : Blk (((w.alloc (Obj.cells #[.pointer (some ⟨p, 0, none⟩)] 23)).alloc (Obj.cells #[.int .i64 id] 3)).alloc (Obj.cells #[.bool false] 4)) w.heap.size #[.pointer (some ⟨p, 0, none⟩)] 23 := ((Blk.made w #[.pointer (some ⟨p, 0, none⟩)] 23).alloc _).alloc _
  have ci := ((Blk.made (w.alloc (Obj.cells #[.pointer (some ⟨p, 0, none⟩)] 23)) #[.int .i64 id] 3).alloc (Obj.cells #[.bool false] 4))
  have cr := Blk.made ((w.alloc (Obj.cells #[.pointer (some ⟨p, 0, none⟩)] 23)).alloc (Obj.cells #[.int .i64 id] 3)) #[.bool false] 4
  simp only [World.size_alloc] at ci cr
  gi_wp2
  generalize ((w.alloc (Obj.cells #[.pointer (some ⟨p, 0, none⟩)] 23)).alloc (Obj.cells #[.int .i64 id] 3)).alloc (Obj.cells #[.bool false] 4) = w0 at hn cw ci cr ⊢
  refine range_law (gf := 27) (first := #[.pointer (some ⟨p, 0, none⟩)]) rfl (enters_of Try.func27 (by kernel_rfl) rfl) (lists_iter _ p r0 r1 r2)
    (fun q W => Only NoBlock w0 W ∧ ∀ j, j < q → (M.L j).any (fun t => decide (t.id = id)) = false)
    (fun c W => c = .ret ∧ (∃ M', Wh.Stopped M id M' true ∧ Wh.WheelAt W base X p r0 r1 r2 M') ∧ W.cell? ⟨w.heap.size + 1 + 1, 0, none⟩ = some (.bool true) ∧ Only (fun k => (base ≤ k ∧ ¬ X k) ∨ k = w.heap.size + 1 + 1) w0 W)
    (fun q => ⟨fun o' h hl _ _ => ⟨only_put o' h.1 hl, h.2⟩, fun o h => ⟨h.1.alloc o, h.2⟩⟩)
    (fun c => ⟨fun o' h hl ho hc => ⟨h.1, (h.2.1.imp fun M' e => ⟨e.1, e.2.putO ho hc⟩), cell_kept h.2.2.1 (grownBy_putObj' _ _ _) (fun r e => by cases e; exact ⟨_, ho, hc⟩), only_put o' h.2.2.2 hl⟩, fun o h => ⟨h.1, (h.2.1.imp fun M' e => ⟨e.1, e.2.keeps ((Only.refl _ _).alloc o)⟩), Wh.cell_same ((Only.refl _ _).alloc o) h.2.2.1, h.2.2.2.alloc o⟩⟩)
    ⟨Only.refl _ _, fun j hj => by omega⟩ (fun q W hh => (h.keeps (hn.trans hh.1)).rg)
    (fun q => { tmps := #[.pointer (some ⟨p, 0, none⟩), .int .i64 id, .pointer (some ⟨w.heap.size, 0, none⟩), .pointer (some ⟨w.heap.size + 1, 0, none⟩), .pointer (some ⟨w.heap.size + 1 + 1, 0, none⟩), .pointer (some (Wh.loc p r0 r1 r2 q)), undef, undef, .pointer (some ⟨p, 0, none⟩), .bool false, .pointer (some ⟨p, 0, none⟩), .func (.func 27) #[.pointer (some ⟨p, 0, none⟩)] #[], .pointer (some (Wh.loc p r0 r1 r2 q)), undef, undef, undef, undef, undef, undef, undef, undef, undef, undef, undef, undef, undef, undef, undef, undef, undef, undef, undef, undef, undef, undef, undef, undef, undef, undef, undef, undef, undef, undef, undef, undef, undef, undef, undef, undef], defers := [] }) ?assign ?body ?done ?stop
  case assign =>
    intro l q W K hK
    gi_wp2
    exact hK
  case done =>
    rintro D W hD ⟨hO, hno⟩ hK
    have crW := cr.keeps hO (fun h => h)
    have y0 : W.cell? ⟨w.heap.size + 1 + 1, 0, none⟩ = some (.bool false) := by rw [crW.cell]; rfl
    have fy := crW.free 0
    have hhas : M.has id = false := by
      unfold Wh.Wl.has
      rw [List.any_eq_false]
      intro q hq
      rw [hno q (List.mem_range.1 hq)]
      decide
    have HH := Lib.hid hhas
    have hzn := hn.size
    clear hno hhas
    gi_wp2
    have hK' := (KeepsOthers.setCell W ⟨w.heap.size + 1 + 1, 0, none⟩ (.bool false)).same D _ hK rfl
    refine ⟨by simp, .inl ⟨_, _, rfl, run_takeDeferred hK', ?_⟩⟩
    have hc5 := cell_kept (World.cell?_setCell_same' W ⟨w.heap.size + 1 + 1, 0, none⟩ (.bool false) (by rw [y0]; rfl)) (grownBy_putObj' _ D (.deferred none)) (fun r e => by cases e; exact ⟨_, hK', rfl⟩)
    have hO5 : Only NoBlock w ((W.setCell ⟨w.heap.size + 1 + 1, 0, none⟩ (.bool false)).putObj D (.deferred none)) := only_put _ ((hn.trans hO).setCell (p := ⟨w.heap.size + 1 + 1, 0, none⟩) (fun hlt => by simp at hlt; omega) _) (by omega)
    refine ⟨.bool false, ?_, false, M, rfl, .inl ⟨rfl, HH.out, rfl⟩, h.keeps hO5, hO5.of_no⟩
    simp [results, Try.f13, go_sem, hc5]
  case stop =>
    rintro D c W hD ⟨rfl, ⟨M', hst, hwh⟩, hcr, hO⟩ hK
    have HH := Lib.hid hst
    have hzn := hn.size
    clear hst
    gi_wp2
    refine ⟨by simp, .inl ⟨_, _, rfl, run_takeDeferred hK, ?_⟩⟩
    have hc5 := cell_kept hcr (grownBy_putObj' _ D (.deferred none)) (fun r e => by cases e; exact ⟨_, hK, rfl⟩)
    refine ⟨.bool true, ?_, true, M', rfl, HH.out, hwh.putO hK rfl, only_put _ (hn.of_no.andThen hO (fun i hi e => by rcases e with e | e; exact e; omega)) (by omega)⟩
    simp [results, Try.f13, go_sem, hc5]
  case body =>
    rintro l q W hq ⟨hO, hno⟩
    have hwW := h.keeps (hn.trans hO)
    obtain ⟨V, hV⟩ := hwW.ex
    obtain ⟨hc, hT⟩ := hV.at_ q hq
    obtain ⟨ao, cap, hv⟩ := hT.shape
    rw [hv] at hc hT
    have hll := hT.2.2
    obtain ⟨L, hL⟩ : ∃ L, M.L q = L := ⟨_, rfl⟩
    rw [hL] at hc hT hll
    have HL := Lib.hid hL
    have HNO := Lib.hid hno
    have x0 : W.cell? ⟨w.heap.size + 1, 0, none⟩ = some (.int .i64 id) := by rw [(ci.keeps hO (fun h => h)).cell]; rfl
    have crW := cr.keeps hO (fun h => h)
    have cwW := cw.keeps hO (fun h => h)
    have y0 : W.cell? ⟨w.heap.size + 1 + 1, 0, none⟩ = some (.bool false) := by rw [crW.cell]; rfl
    have fy := crW.free 0
    have HW := Lib.hid hwW
    have HV := Lib.hid hv
    have HVV := Lib.hid hV
    have HCAP : RowKit.Hid (∀ g, ao = some ⟨g, 0, none⟩ → L.length ≤ cap) := Lib.hid (by
      intro g hg
      rcases hT.lie with ⟨e, _⟩ | ⟨_, _, _, _, _, e, _⟩
      · rw [hg] at e; cases e
      · exact e)
    have hB3 : ∀ {w3 : World}, Only NoBlock W w3 → base ≤ w3.heap.size := fun ho => by have := Wh.base_le h; have := hn.size; have := hO.size; have := ho.size; omega
    have hALT := h.loc_lt q
    have hPLT : p < w.heap.size := by obtain ⟨c, hb, _⟩ := h.bp; exact hb.lt
    clear hV hv hL hno hwW
    obtain ⟨A, hA⟩ : ∃ A, Wh.loc p r0 r1 r2 q = A := ⟨_, rfl⟩
    rw [hA] at hc hALT ⊢
    have HF2 : ∀ {w3 : World}, Only NoBlock W w3 → w3.frozen? A = false := fun ho => by have := (HW.out.keeps ho).free_loc q; rwa [hA] at this
    have HE0 : ∀ {w3 w6 : World} {v' : Value} {l' : List Wh.Tm}, Only NoBlock W w3 → Wh.Tms w6 base v' l' → Only NoBlock w3 w6 → (∀ b, v'.ownBlock = some b → (V q).ownBlock = some b ∨ w3.heap.size ≤ b) →
        Wh.WheelAt (w6.setCell A v') base X p r0 r1 r2 (M.upd q l') ∧ Only (fun k => base ≤ k ∧ ¬ X k) W (w6.setCell A v') ∧ (w6.setCell A v').cell? ⟨w.heap.size, 0, none⟩ = some (.pointer (some ⟨p, 0, none⟩)) ∧ Blk (w6.setCell A v') (w.heap.size + 1 + 1) #[.bool false] 4 ∧ KeepsOthers W (w6.setCell A v') := by
      intro w3 w6 v' l' hO2 ht6 ho6 hv6
      have hs := (HW.out.keeps hO2).store (HVV.out.keeps hO2) hq ⟨ho6.os, ho6.tape, ho6.output, ho6.size, fun k hk _ => ho6.block k hk (fun h => h)⟩ ht6 hv6
      rw [hA] at hs
      refine ⟨hs.1, hO2.of_no.trans hs.2, ?_, ?_, (keepsO (hO2.trans ho6)).trans (KeepsOthers.setCell _ _ _)⟩
      · rw [World.cell?_setCell_far _ _ _ _ (by show A.block ≠ w.heap.size; omega), ((cwW.keeps hO2 (fun h => h)).keeps ho6 (fun h => h)).cell]; rfl
      · exact ((crW.keeps hO2 (fun h => h)).keeps ho6 (fun h => h)).setCell_other (by omega) _
    have HA := Lib.hid hA
    clear hA
    have HENDG : ∀ (w7 : World) (k : Nat), k < L.length → (L.getD k Wh.Tm.zero).id = id → Wh.WheelAt w7 base X p r0 r1 r2 (M.upd q (L.eraseIdx k)) → Blk w7 (w.heap.size + 1 + 1) #[.bool false] 4 → Only (fun k => base ≤ k ∧ ¬ X k) W w7 → KeepsOthers W w7 → 
        KeepsOthers W ((w7.setCell ⟨p, 6, none⟩ (.int .i64 (M.n - 1))).setCell ⟨w.heap.size + 1 + 1, 0, none⟩ (.bool true)) ∧ (∃ M', Wh.Stopped M id M' true ∧ Wh.WheelAt ((w7.setCell ⟨p, 6, none⟩ (.int .i64 (M.n - 1))).setCell ⟨w.heap.size + 1 + 1, 0, none⟩ (.bool true)) base X p r0 r1 r2 M') ∧ ((w7.setCell ⟨p, 6, none⟩ (.int .i64 (M.n - 1))).setCell ⟨w.heap.size + 1 + 1, 0, none⟩ (.bool true)).cell? ⟨w.heap.size + 1 + 1, 0, none⟩ = some (.bool true) ∧ Only (fun k => (base ≤ k ∧ ¬ X k) ∨ k = w.heap.size + 1 + 1) w0 ((w7.setCell ⟨p, 6, none⟩ (.int .i64 (M.n - 1))).setCell ⟨w.heap.size + 1 + 1, 0, none⟩ (.bool true)) := by
      intro w7 k hk he hw7 hr7 hO7 hK7
      have hs := hw7.setN (M.n - 1)
      have hr8 : Blk (w7.setCell ⟨p, 6, none⟩ (.int .i64 (M.n - 1))) (w.heap.size + 1 + 1) #[.bool false] 4 := hr7.setCell_other (by show w.heap.size + 1 + 1 ≠ p; omega) _
      refine ⟨(hK7.trans (KeepsOthers.setCell _ _ _)).trans (KeepsOthers.setCell _ _ _), ⟨_, .inr ⟨rfl, q, k, hq, by rw [HL.out]; exact hk, by rw [HL.out]; exact he, rfl⟩, ?_⟩, World.cell?_setCell_same' _ _ _ (by rw [hr8.cell]; rfl), ?_⟩
      · rw [HL.out]
        exact hs.1.keepsC (S := fun k => k = w.heap.size + 1 + 1) (Only.setCell (S := fun k => k = w.heap.size + 1 + 1) (p := ⟨w.heap.size + 1 + 1, 0, none⟩) (Only.refl _ _) (fun _ => rfl) _) (fun b cs t z hb hle ht e => by
          subst e
          unfold Blk at hr8
          rw [hr8] at hb
          cases hb
          revert ht
          decide)
      · exact Only.setCell ((((hO.of_no.trans hO7).trans hs.2).mono (fun k e => .inl e))) (fun _ => .inr rfl) _
    have HEND := Lib.hid HENDG
    clear HENDG
    gi_wp2
    gi_loopw [17] (fun u17 wr => ∃ k : Nat, k ≤ L.length ∧ u17 = .int .i64 k ∧ Only NoBlock W wr ∧ RowKit.Hid (∀ i, i < k → (L.getD i Wh.Tm.zero).id ≠ id)) (fun u17 _ => L.length - (intOf u17).toNat)
    case atStart => exact ⟨0, by omega, rfl, Only.refl _ _, Lib.hid (fun i hi => by omega)⟩
    case round =>
      obtain ⟨k, hk, rfl, hO1, HN⟩ := hrel
      have hT1 := hT.keeps hO1 (fun _ _ h => h)
      by_cases hlt : k < L.length
      · obtain ⟨g, rfl, c0, c1, c2⟩ := hT1.cell hlt
        have x1 := Wh.cell_same hO1 x0
        have y1 := Wh.cell_same hO1 y0
        have cr1 := crW.keeps hO1 (fun h => h)
        have fy1 := cr1.free 0
        have hA1 := (Only.refl NoBlock wr).alloc (Obj.cells #[.int .i64 (L.getD k Wh.Tm.zero).id, .int .u64 (L.getD k Wh.Tm.zero).due, .int .i64 (L.getD k Wh.Tm.zero).turn] 53)
        obtain ⟨t, ht⟩ : ∃ t, L.getD k Wh.Tm.zero = t := ⟨_, rfl⟩
        rw [ht] at c0 c1 c2 hA1
        have HT := Lib.hid ht
        clear ht
        obtain ⟨ti, td, tt⟩ := t
        simp only at c0 c1 c2 hA1
        have x2 := Wh.cell_same hA1 x1
        have y2 := Wh.cell_same hA1 y1
        have cr2 := cr1.keeps hA1 (fun h => h)
        have fy2 := cr2.free 0
        by_cases he : ti = id
        · have hb : (ti == id) = true := by simpa using he
          have HE := Lib.hid he
          clear he
          gi_wp2
          have hT2 := hT1
          have HCAP1 := Lib.hid (HCAP.out g rfl)
          -- REGION 9
          have hT2 := hT2.keeps (((Only.refl NoBlock wr).alloc (Obj.cells #[.int .i64 ti, .int .u64 td, .int .i64 tt] 53)).drew) (fun _ _ h => h)
          have hO2 := (hO1.alloc (Obj.cells #[.int .i64 ti, .int .u64 td, .int .i64 tt] 53)).drew
          have hc2 := Wh.cell_same hO2 hc
          refine round_held (S := fun _ => True) (by kernel_rfl) (by kernel_rfl) trivial (fun _ => ?_)
          generalize (wr.alloc (Obj.cells #[.int .i64 ti, .int .u64 td, .int .i64 tt] 53)).drew = w3 at hT2 hc2 hO2 ⊢
          have hw1 : IntKind.i64.wrap ((k : Int) + 1) = (k : Int) + 1 := IntWalk.i64_in _ (by omega)
          have hcap : L.length ≤ cap := HCAP1.out
          have sl1 : ∀ w : World, (Instr.slice 47 (.slice (some ⟨g, 0, none⟩) L.length cap) none (some (.int .i64 k)) (some (.int .i64 k))).run Try.prog w = .ok (.slice (some ⟨g, 0, none⟩) k k) w := Wh.sl_hm g L.length cap k (by omega)
          have sl2 : ∀ w : World, (Instr.slice 47 (.slice (some ⟨g, 0, none⟩) L.length cap) (some (.int .i64 ((k : Int) + 1))) none none).run Try.prog w = .ok (sliced (some ⟨g, 0, none⟩) (k + 1) L.length cap 3) w := fun w => by have := Wh.sl_l g L.length cap (k + 1) (by omega) w; push_cast at this; exact this
          have hf2 : w3.frozen? A = false := HF2 hO2
          obtain ⟨SV, hSV⟩ : ∃ SV, sliced (some ⟨g, 0, none⟩) (k + 1) L.length cap 3 = SV := ⟨_, rfl⟩
          rw [hSV] at sl2
          have HSV := Lib.hid hSV
          clear hSV
          refine Wh.take (i := 0) (d := some 26) (v := ?v1) rfl (by rfl) (by kernel_rfl) (by kernel_rfl) (by kernel_rfl) (fun _ _ _ h => h.no) (Or.inl ⟨by rfl, ?h1⟩) trivial ?r1
          case h1 => (intro w hSw; go_simp; all_goals (try with_reducible rfl))
          simp only [Act.put, List.setIfInBounds_toArray, List.set_cons_zero, List.set_cons_succ]
          refine Wh.take (i := 1) (d := some 27) (v := ?v2) rfl (by rfl) (by kernel_rfl) (by kernel_rfl) (by kernel_rfl) (fun _ _ _ h => h.no) (Or.inl ⟨by rfl, ?h2⟩) trivial ?r2
          case h2 => (intro w hSw; go_simp; all_goals (try with_reducible rfl))
          simp only [Act.put, List.setIfInBounds_toArray, List.set_cons_zero, List.set_cons_succ]
          refine Wh.take (i := 2) (d := some 28) (v := ?v3) rfl (by rfl) (by kernel_rfl) (by kernel_rfl) (by kernel_rfl) (fun _ _ _ h => h.no) (Or.inl ⟨by rfl, ?h3⟩) trivial ?r3
          case h3 => (intro w hSw; go_simp; all_goals (try with_reducible rfl))
          simp only [Act.put, List.setIfInBounds_toArray, List.set_cons_zero, List.set_cons_succ]
          refine Wh.take (i := 4) (d := some 30) (v := ?v4) rfl (by rfl) (by kernel_rfl) (by kernel_rfl) (by kernel_rfl) (fun _ _ _ h => h.no) (Or.inl ⟨by rfl, ?h4⟩) trivial ?r4
          case h4 => (intro w hSw; go_simp; all_goals (try with_reducible rfl))
          simp only [Act.put, List.setIfInBounds_toArray, List.set_cons_zero, List.set_cons_succ]
          refine Wh.take (i := 5) (d := some 31) (v := ?v5) rfl (by rfl) (by kernel_rfl) (by kernel_rfl) (by kernel_rfl) (fun _ _ _ h => h.no) (Or.inl ⟨by rfl, ?h5⟩) trivial ?r5
          case h5 => (intro w hSw; go_simp; all_goals (try with_reducible rfl))
          simp only [Act.put, List.setIfInBounds_toArray, List.set_cons_zero, List.set_cons_succ]
          refine Wh.take (i := 7) (d := some 33) (v := ?v6) rfl (by rfl) (by kernel_rfl) (by kernel_rfl) (by kernel_rfl) (fun _ _ _ h => h.no) (Or.inl ⟨by rfl, ?h6⟩) trivial ?r6
          case h6 => (intro w hSw; go_simp; all_goals (try with_reducible rfl))
          simp only [Act.put, List.setIfInBounds_toArray, List.set_cons_zero, List.set_cons_succ]
          refine Wh.take (i := 8) (d := some 34) (v := ?v7) rfl (by rfl) (by kernel_rfl) (by kernel_rfl) (by kernel_rfl) (fun _ _ _ h => h.no) (Or.inl ⟨by rfl, ?h7⟩) trivial ?r7
          case h7 => (intro w hSw; go_simp; all_goals (try with_reducible rfl))
          simp only [Act.put, List.setIfInBounds_toArray, List.set_cons_zero, List.set_cons_succ]
          refine Wh.take (i := 10) (d := some 36) (v := ?v8) rfl (by rfl) (by kernel_rfl) (by kernel_rfl) (by kernel_rfl) (fun _ _ _ h => h.no) (Or.inl ⟨by rfl, ?h8⟩) trivial ?r8
          case h8 => (intro w hSw; go_simp; all_goals (try with_reducible rfl))
          simp only [Act.put, List.setIfInBounds_toArray, List.set_cons_zero, List.set_cons_succ]
          refine Wh.take (i := 11) (d := some 37) (v := ?v9) rfl (by rfl) (by kernel_rfl) (by kernel_rfl) (by kernel_rfl) (fun _ _ _ h => h.no) (Or.inl ⟨by rfl, ?h9⟩) trivial ?r9
          case h9 => (intro w hSw; go_simp; all_goals (try with_reducible rfl))
          simp only [Act.put, List.setIfInBounds_toArray, List.set_cons_zero, List.set_cons_succ]
          refine wpAnyH_ready (rs := [3, 9]) (by kernel_rfl) (by simp) ?_
          refine AllReadyH.cons rfl (fun K hK => ?_) (AllReadyH.cons rfl (fun K hK => ?_) AllReadyH.nil)
          · go_simp
            refine hK.out _ _ trivial (fun _ => ?_)
            clear hK K
            try simp only [Act.put, List.setIfInBounds_toArray, List.set_cons_zero, List.set_cons_succ]
            refine Wh.take (i := 6) (d := some 32) (v := .slice (some ⟨g, 0, none⟩) k k) rfl (by rfl) (by kernel_rfl) (by kernel_rfl) (by kernel_rfl) (fun _ _ _ h => h.no) (Or.inl ⟨by rfl, ?h10⟩) trivial ?r10
            case h10 => (intro w hSw; exact Wh.exec_hm (by rfl) (by rfl) (by rfl) (by rfl) (by kernel_rfl) (sl1 w))
            simp only [Act.put, List.setIfInBounds_toArray, List.set_cons_zero, List.set_cons_succ]
            refine wpAnyH_ready (rs := [9]) (by kernel_rfl) (by simp) ?_
            refine AllReadyH.cons rfl (fun K hK => ?_) AllReadyH.nil
            go_simp
            refine hK.out _ _ trivial (fun _ => ?_)
            clear hK K
            try simp only [Act.put, List.setIfInBounds_toArray, List.set_cons_zero, List.set_cons_succ]
            refine Wh.take (i := 12) (d := some 38) (v := SV) rfl (by rfl) (by kernel_rfl) (by kernel_rfl) (by kernel_rfl) (fun _ _ _ h => h.no) (Or.inl ⟨by rfl, ?h11⟩) trivial ?r11
            case h11 => (intro w hSw; exact Wh.exec_l (by rfl) (by rfl) (by rfl) (by kernel_rfl) (sl2 w))
            simp only [Act.put, List.setIfInBounds_toArray, List.set_cons_zero, List.set_cons_succ]
            refine wpAnyH_ready (rs := [13]) (by kernel_rfl) (by simp) ?_
            refine AllReadyH.cons rfl (fun K hK => ?_) AllReadyH.nil
            refine Wh.step_append_cut _ (by rfl) _ _ (by rfl) base g cap L k hlt hT2 (hB3 hO2) (by rfl) (by rw [HSV.out]; rfl) ?_
            intro v6 w6 ht6 ho6 hv6
            obtain ⟨a6, c6, rfl⟩ := ht6.shape
            have hE := HE0 hO2 ht6 ho6 (fun b e => (hv6 b e).imp (fun e => by rw [HV.out, e]; rfl) (fun h => h))
            have hc6 := Wh.cell_same ho6 hc2
            have hf6 := HF2 (hO2.trans ho6)
            refine hK.out _ _ trivial (fun _ => ?_)
            clear hK K
            try simp only [Act.put, List.setIfInBounds_toArray]
            refine Wh.take (i := 14) (d := some 40) (v := ?v12) rfl (by rfl) (by kernel_rfl) (by kernel_rfl) (by kernel_rfl) (fun _ _ _ h => h.no) (Or.inl ⟨by rfl, ?h12⟩) trivial ?r12
            case h12 => (intro w hSw; go_simp; all_goals (try with_reducible rfl))
            simp only [Act.put]
            refine wpAnyH_ready (rs := [15]) (by kernel_rfl) (by simp) ?_
            refine AllReadyH.cons rfl (fun K hK => ?_) AllReadyH.nil
            go_simp
            refine hK.out _ _ trivial (fun _ => ?_)
            clear hK K
            refine wpAnyH_done (by kernel_rfl) ?_ _
            refine ⟨rfl, ?_⟩
            try simp only [Act.put, List.setIfInBounds_toArray, List.set_cons_zero, List.set_cons_succ]
            generalize w6.setCell A (.slice a6 (L.eraseIdx k).length c6) = w7 at hE ⊢
            obtain ⟨hWh, hOn, hbx, hr7, hko⟩ := hE
            have HFIN := Lib.hid (HEND.out _ _ hlt (by rw [HT.out]; exact HE.out) hWh hr7 hOn hko)
            have cn := hWh.cnt
            simp only [Wh.Wl.upd] at cn
            have fn := Wh.p_free hWh 6
            have cr7 := hr7.cell 0
            have fr7 := hr7.free 0
            simp only [List.getElem?_toArray, List.getElem?_cons_zero] at cr7
            clear hT2 hc2 hO2 hf2 hc6 hf6 ht6 ho6 hv6 hWh hOn hr7 hko sl1 sl2
            gi_wp2
            exact ⟨HFIN.out.1, rfl, HFIN.out.2⟩
          · go_simp
            refine hK.out _ _ trivial (fun _ => ?_)
            clear hK K
            try simp only [Act.put, List.setIfInBounds_toArray, List.set_cons_zero, List.set_cons_succ]
            refine Wh.take (i := 12) (d := some 38) (v := SV) rfl (by rfl) (by kernel_rfl) (by kernel_rfl) (by kernel_rfl) (fun _ _ _ h => h.no) (Or.inl ⟨by rfl, ?h13⟩) trivial ?r13
            case h13 => (intro w hSw; exact Wh.exec_l (by rfl) (by rfl) (by rfl) (by kernel_rfl) (sl2 w))
            simp only [Act.put, List.setIfInBounds_toArray, List.set_cons_zero, List.set_cons_succ]
            refine wpAnyH_ready (rs := [3]) (by kernel_rfl) (by simp) ?_
            refine AllReadyH.cons rfl (fun K hK => ?_) AllReadyH.nil
            go_simp
            refine hK.out _ _ trivial (fun _ => ?_)
            clear hK K
            try simp only [Act.put, List.setIfInBounds_toArray, List.set_cons_zero, List.set_cons_succ]
            refine Wh.take (i := 6) (d := some 32) (v := .slice (some ⟨g, 0, none⟩) k k) rfl (by rfl) (by kernel_rfl) (by kernel_rfl) (by kernel_rfl) (fun _ _ _ h => h.no) (Or.inl ⟨by rfl, ?h14⟩) trivial ?r14
            case h14 => (intro w hSw; exact Wh.exec_hm (by rfl) (by rfl) (by rfl) (by rfl) (by kernel_rfl) (sl1 w))
            simp only [Act.put, List.setIfInBounds_toArray, List.set_cons_zero, List.set_cons_succ]
            refine wpAnyH_ready (rs := [13]) (by kernel_rfl) (by simp) ?_
            refine AllReadyH.cons rfl (fun K hK => ?_) AllReadyH.nil
            refine Wh.step_append_cut _ (by rfl) _ _ (by rfl) base g cap L k hlt hT2 (hB3 hO2) (by rfl) (by rw [HSV.out]; rfl) ?_
            intro v6 w6 ht6 ho6 hv6
            obtain ⟨a6, c6, rfl⟩ := ht6.shape
            have hE := HE0 hO2 ht6 ho6 (fun b e => (hv6 b e).imp (fun e => by rw [HV.out, e]; rfl) (fun h => h))
            have hc6 := Wh.cell_same ho6 hc2
            have hf6 := HF2 (hO2.trans ho6)
            refine hK.out _ _ trivial (fun _ => ?_)
            clear hK K
            try simp only [Act.put, List.setIfInBounds_toArray]
            refine Wh.take (i := 14) (d := some 40) (v := ?v15) rfl (by rfl) (by kernel_rfl) (by kernel_rfl) (by kernel_rfl) (fun _ _ _ h => h.no) (Or.inl ⟨by rfl, ?h15⟩) trivial ?r15
            case h15 => (intro w hSw; go_simp; all_goals (try with_reducible rfl))
            simp only [Act.put]
            refine wpAnyH_ready (rs := [15]) (by kernel_rfl) (by simp) ?_
            refine AllReadyH.cons rfl (fun K hK => ?_) AllReadyH.nil
            go_simp
            refine hK.out _ _ trivial (fun _ => ?_)
            clear hK K
            refine wpAnyH_done (by kernel_rfl) ?_ _
            refine ⟨rfl, ?_⟩
            try simp only [Act.put, List.setIfInBounds_toArray, List.set_cons_zero, List.set_cons_succ]
            generalize w6.setCell A (.slice a6 (L.eraseIdx k).length c6) = w7 at hE ⊢
            obtain ⟨hWh, hOn, hbx, hr7, hko⟩ := hE
            have HFIN := Lib.hid (HEND.out _ _ hlt (by rw [HT.out]; exact HE.out) hWh hr7 hOn hko)
            have cn := hWh.cnt
            simp only [Wh.Wl.upd] at cn
            have fn := Wh.p_free hWh 6
            have cr7 := hr7.cell 0
            have fr7 := hr7.free 0
            simp only [List.getElem?_toArray, List.getElem?_cons_zero] at cr7
            clear hT2 hc2 hO2 hf2 hc6 hf6 ht6 ho6 hv6 hWh hOn hr7 hko sl1 sl2
            gi_wp2
            exact ⟨HFIN.out.1, rfl, HFIN.out.2⟩
          -- END 9
        · have hb : (ti == id) = false := by simpa using he
          have HE := Lib.hid he
          clear he
          gi_wp2
          go_roundw
          case rel =>
            have HN2 : RowKit.Hid (∀ i, i < k + 1 → (L.getD i Wh.Tm.zero).id ≠ id) := Lib.hid (fun i hi => by
              by_cases hik : i < k
              · exact HN.out i hik
              · obtain rfl : i = k := by omega
                rw [HT.out]; exact HE.out)
            first
              | exact ⟨k + 1, by omega, by go_num, hO1.trans hA1, HN2⟩
              | ((repeat apply Exists.intro); exact ⟨⟨k + 1, by omega, by go_num, hO1.trans hA1, HN2⟩, rfl⟩)
          case measure => simp [intOf]; omega
      · obtain rfl : k = L.length := by omega
        gi_wp2
        refine ⟨keepsO hO1, hO.trans hO1, fun j hj => ?_⟩
        by_cases hjq : j < q
        · exact HNO.out j hjq
        · obtain rfl : j = q := by omega
          rw [HL.out, List.any_eq_false]
          intro t ht
          obtain ⟨i, hi, rfl⟩ := List.mem_iff_getElem.1 ht
          have := HN.out i hi
          rw [List.getD_eq_getElem?_getD, List.getElem?_eq_getElem hi] at this
          simpa using this
end Go.Proofs.Ytklpdkojffaiiaa
