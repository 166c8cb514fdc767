/- A timer is put to its place. -/
import Derived.Test.YtklpdkojffaiiaaPutA
namespace Go.Proofs.Ytklpdkojffaiiaa
open Go.RowKit Go.Shelf
set_option maxRecDepth 100000

set_option maxHeartbeats 4000000 in
theorem put_at (w : World) (base : Nat) (X : Nat → Prop) (p r0 r1 r2 : Nat) (M : Wh.Wl) (h : Wh.WheelAt w base X p r0 r1 r2 M) (t : Wh.Tm) (ht : t.Wf) (_hn : M.now < 18446744073709551616) (hlen : (M.L (Wh.place M.now t.due)).length < 1000000) :
    Calls Try.prog 23 #[.pointer (some ⟨p, 0, none⟩), .agg #[.int .i64 t.id, .int .u64 t.due, .int .i64 t.turn]] w fun e w' => (∃ v, e = .returned v) ∧ Wh.WheelAt w' base X p r0 r1 r2 (M.upd (Wh.place M.now t.due) (M.L (Wh.place M.now t.due) ++ [t])) ∧ Only (fun k => base ≤ k ∧ ¬ X k) w w' := by
  have hql := Wh.place_lt M.now t.due
  obtain ⟨q, hQ⟩ : ∃ q, Wh.place M.now t.due = q := ⟨_, rfl⟩
  rw [hQ] at hql hlen ⊢
  go_enter Try.func23, Try.ntmps23
  obtain ⟨ti, td, tt⟩ := t
  obtain ⟨hw1, hw2, hw3⟩ := ht
  simp only at hw1 hw2 hw3 hQ ⊢
  have HQ := Lib.hid hQ
  clear hQ
  have hn0 := (Only.refl NoBlock w).alloc (Obj.cells #[.int .i64 ti, .int .u64 td, .int .i64 tt] 53)
  have ct := Blk.made w #[.int .i64 ti, .int .u64 td, .int .i64 tt] 53
  go_upto_region 1 with fail
  generalize w.alloc (Obj.cells #[.int .i64 ti, .int .u64 td, .int .i64 tt] 53) = w0 at hn0 ct ⊢
  go_wp2_with fail
  refine (shifts_at w0).mono ?_
  rintro e w1 ⟨rfl, hO1⟩
  have hn1 := (hn0.trans hO1).alloc (Obj.cells #[.int .u64 0, .int .u64 6, .int .u64 13, .int .u64 21] 55)
  have ct1 := (ct.keeps hO1 (fun h => h)).alloc (Obj.cells #[.int .u64 0, .int .u64 6, .int .u64 13, .int .u64 21] 55)
  have cs := Blk.made w1 #[.int .u64 0, .int .u64 6, .int .u64 13, .int .u64 21] 55
  unfold Wh.sh
  go_upto_region 2 with fail
  obtain ⟨S, hS⟩ : ∃ S, w1.heap.size = S := ⟨_, rfl⟩
  obtain ⟨B, hB⟩ : ∃ B, w.heap.size = B := ⟨_, rfl⟩
  have hB0 : w0.heap.size = B + 1 ∨ True := .inr trivial
  rw [hS] at cs ⊢
  rw [hB] at ct1 ⊢
  generalize w1.alloc (Obj.cells #[.int .u64 0, .int .u64 6, .int .u64 13, .int .u64 21] 55) = w2 at hn1 ct1 cs ⊢
  have s0 : w2.cell? ⟨S, 0, none⟩ = some (.int .u64 0) := by rw [cs.cell]; rfl
  have s1 : w2.cell? ⟨S, 1, none⟩ = some (.int .u64 6) := by rw [cs.cell]; rfl
  have s2 : w2.cell? ⟨S, 2, none⟩ = some (.int .u64 13) := by rw [cs.cell]; rfl
  have s3 : w2.cell? ⟨S, 3, none⟩ = some (.int .u64 21) := by rw [cs.cell]; rfl
  have t0 : w2.cell? ⟨B, 0, none⟩ = some (.int .i64 ti) := by rw [ct1.cell]; rfl
  have t1 : w2.cell? ⟨B, 1, none⟩ = some (.int .u64 td) := by rw [ct1.cell]; rfl
  have t2 : w2.cell? ⟨B, 2, none⟩ = some (.int .i64 tt) := by rw [ct1.cell]; rfl
  have h2 := h.keeps hn1
  have p0 := h2.now
  obtain ⟨g0, g1, g2⟩ := h2.rg
  obtain ⟨V, hV0⟩ := h.ex
  have HV := Lib.hid hV0
  have hown : ∀ b, (V q).ownBlock = some b → b ≠ B := fun b e => by have := ((hV0.at_ q hql).2.lt b e).2; omega
  have HOWN := Lib.hid hown
  have HRB : RowKit.Hid (r0 < B ∧ r1 < B ∧ r2 < B ∧ p < B) := Lib.hid (by
    obtain ⟨_, k0, -⟩ := h.b0
    obtain ⟨_, k1, -⟩ := h.b1
    obtain ⟨_, k2, -⟩ := h.b2
    obtain ⟨_, k3, -⟩ := h.bp
    have := k0.lt; have := k1.lt; have := k2.lt; have := k3.lt; omega)
  clear hown hV0
  have HP := Lib.hid h2
  have HO := Lib.hid hn1
  clear h2 hn1 ct ct1 cs hS hB hB0 hO1 hn0 h w1 w0
  have HL := Lib.hid hlen
  clear hlen
  go_wp2_with fail
  go_loopw [8] (fun u8 wr => ∃ i : Nat, i ≤ 3 ∧ u8 = .int .i64 i ∧ Only NoBlock w2 wr ∧ RowKit.Hid ((1 ≤ i → ¬ td / 64 = M.now / 64) ∧ (2 ≤ i → ¬ td / 8192 = M.now / 8192) ∧ (3 ≤ i → ¬ td / 2097152 = M.now / 2097152))) (fun u8 _ => 3 - (intOf u8).toNat)
  case atStart => exact ⟨0, by omega, rfl, Only.refl _ _, Lib.hid ⟨by omega, by omega, by omega⟩⟩
  case round =>
    obtain ⟨i, hi, rfl, hOr, HC⟩ := hrel
    have s0 := Wh.cell_same hOr s0
    have s1 := Wh.cell_same hOr s1
    have s2 := Wh.cell_same hOr s2
    have s3 := Wh.cell_same hOr s3
    have t0 := Wh.cell_same hOr t0
    have t1 := Wh.cell_same hOr t1
    have t2 := Wh.cell_same hOr t2
    have p0 := Wh.cell_same hOr p0
    have g0 := Wh.cell_same hOr g0
    have g1 := Wh.cell_same hOr g1
    have g2 := Wh.cell_same hOr g2
    have hO3 := HO.out.trans hOr
    have HPr := Lib.hid (HP.out.keeps hOr)
    have hcase : i = 0 ∨ i = 1 ∨ i = 2 ∨ i = 3 := by omega
    rcases hcase with rfl | rfl | rfl | rfl
    · by_cases he : td / 64 = M.now / 64
      · have hb : (((td : Int) / 64) == ((M.now : Int) / 64)) = true := by rw [beq_iff_eq]; omega
        obtain ⟨k, hk⟩ : ∃ k, td % 64 = k := ⟨_, rfl⟩
        have hk64 : k < 64 := by omega
        have hm : bits .and .u64 (td : Int) 63 = (k : Int) := by have := Wh.mask 6 (by decide) hw2; rw [← hk]; simpa using this
        have hqk : q = k := by rw [← HQ.out]; unfold Wh.place; rw [if_pos he, hk]
        go_upto_region 5 with fail
        go_region
        go_upto_region 6 with fail
        go_region
        have hPw := HPr.out.keeps (((Only.refl NoBlock wr).drew).drew)
        have hO4 := (hO3.drew).drew
        have t0 := Wh.cell_same (((Only.refl NoBlock wr).drew).drew) t0
        have t1 := Wh.cell_same (((Only.refl NoBlock wr).drew).drew) t1
        have t2 := Wh.cell_same (((Only.refl NoBlock wr).drew).drew) t2
        have g0 := Wh.cell_same (((Only.refl NoBlock wr).drew).drew) g0
        generalize wr.drew.drew = w3 at hPw hO4 t0 t1 t2 g0 ⊢
        have hV := HV.out.keeps hO4
        obtain ⟨hc, hT⟩ := hV.at_ q hql
        have hloc : Wh.loc p r0 r1 r2 q = ⟨r0, k, none⟩ := by rw [hqk, Wh.loc0 hk64]
        rw [hloc] at hc
        obtain ⟨v, hv⟩ : ∃ v, V q = v := ⟨_, rfl⟩
        obtain ⟨l, hl⟩ : ∃ l, M.L q = l := ⟨_, rfl⟩
        have HE : ∀ {w6 : World} {v' : Value} {o : Obj}, (w3.alloc o).drew.grownBy w6 v.ownBlock → Wh.Tms w6 base v' (l ++ [⟨ti, td, tt⟩]) → (v'.ownBlock = v.ownBlock ∨ v'.ownBlock = some (w3.alloc o).drew.heap.size) → Wh.WheelAt (w6.setCell ⟨r0, k, none⟩ v') base X p r0 r1 r2 (M.upd q (l ++ [⟨ti, td, tt⟩])) ∧ Only (fun k => base ≤ k ∧ ¬ X k) w (w6.setCell ⟨r0, k, none⟩ v') := by
          intro w6 v' o hg ht hor
          have := Wh.put_end hPw hV hql (by rw [hv]; exact hg) ht (by rw [hv]; exact hor)
          rw [hloc] at this
          exact ⟨this.1, hO4.of_no.trans this.2⟩
        have hBne : ¬ (v.ownBlock = some B) := fun e => HOWN.out B (by rw [hv]; exact e) rfl
        rw [hv, hl] at hT
        rw [hv] at hc
        have HLL : RowKit.Hid (l.length < 1000000) := Lib.hid (by rw [← hl]; exact HL.out)
        have HMUL := Lib.hid hl
        obtain ⟨cP, hbP, -⟩ := hPw.bp
        obtain ⟨cR, hbR, -⟩ := hPw.b0
        have aP := hT.apart hbP (by decide)
        have aR := hT.apart hbR (by decide)
        have hbase := Wh.base_le hPw
        have nR := hPw.nes.1
        have nB : r0 ≠ B := by have := HRB.out.1; omega
        have hwf : (⟨ti, td, tt⟩ : Wh.Tm).Wf := ⟨hw1, hw2, hw3⟩
        have fR := hbR.free k
        have lP := hbP.lt
        have lB := World.block_lt_of_cell? w3 _ t0
        have lR := hbR.lt
        clear hv hl hV hPw hqk hk hm hb he
        have i1 : (0 : Int) ≤ (k : Int) := by omega
        have i2 : (k : Int) < 64 := by omega
        have i3 : (k : Int) < ((64 : Nat) : Int) := by omega
        have i4 : (k : Int).toNat = k := by omega
        have hA3 := ((Only.refl NoBlock w3).alloc (Obj.cells #[.int .i64 ti, .int .u64 td, .int .i64 tt] 53)).drew
        have k0 := Wh.cell_same hA3 g0
        have k2 := Wh.cell_same hA3 t0
        have k3 := Wh.cell_same hA3 t1
        have k4 := Wh.cell_same hA3 t2
        have k1 := Wh.cell_same hA3 hc
        go_upto_region 7 with fail
        refine wp_region_held_drew (S := (fun w' => w'.cell? ⟨p, 2, none⟩ = some (.slice (some ⟨r0, 0, none⟩) 64 64) ∧ w'.cell? ⟨B, 0, none⟩ = some (.int .i64 ti) ∧ w'.cell? ⟨B, 1, none⟩ = some (.int .u64 td) ∧ w'.cell? ⟨B, 2, none⟩ = some (.int .i64 tt))) (by kernel_rfl) ?_ (fun hHeld => ?_)
        · exact ⟨g0, t0, t1, t2⟩
        refine Wh.take (i := 0) (d := some 44) (v := ?v0) rfl (by rfl) (by kernel_rfl) (by kernel_rfl) (by kernel_rfl) (fun _ _ _ h => h) (Or.inl ⟨by rfl, ?h0⟩) (by assumption) ?r0
        case h0 => (intro w hSw; (try dsimp only at hSw); go_simp; all_goals with_reducible rfl)
        simp only [Act.put, List.setIfInBounds_toArray, List.set_cons_zero, List.set_cons_succ]
        refine Wh.take (i := 1) (d := some 45) (v := ?v1) rfl (by rfl) (by kernel_rfl) (by kernel_rfl) (by kernel_rfl) (fun _ _ _ h => h) (Or.inl ⟨by rfl, ?h1⟩) (by assumption) ?r1
        case h1 => (intro w hSw; (try dsimp only at hSw); go_simp; all_goals with_reducible rfl)
        simp only [Act.put, List.setIfInBounds_toArray, List.set_cons_zero, List.set_cons_succ]
        refine Wh.take (i := 2) (d := some 46) (v := ?v2) rfl (by rfl) (by kernel_rfl) (by kernel_rfl) (by kernel_rfl) (fun _ _ _ h => h) (Or.inl ⟨by rfl, ?h2⟩) (by assumption) ?r2
        case h2 => (intro w hSw; (try dsimp only at hSw); go_simp; all_goals with_reducible rfl)
        simp only [Act.put, List.setIfInBounds_toArray, List.set_cons_zero, List.set_cons_succ]
        refine Wh.take (i := 3) (d := some 47) (v := ?v3) rfl (by rfl) (by kernel_rfl) (by kernel_rfl) (by kernel_rfl) (fun _ _ _ h => h) (Or.inl ⟨by rfl, ?h3⟩) (by assumption) ?r3
        case h3 => (intro w hSw; (try dsimp only at hSw); go_simp; all_goals with_reducible rfl)
        simp only [Act.put, List.setIfInBounds_toArray, List.set_cons_zero, List.set_cons_succ]
        refine Wh.take (i := 4) (d := some 48) (v := ?v4) rfl (by rfl) (by kernel_rfl) (by kernel_rfl) (by kernel_rfl) (fun _ _ _ h => h) (Or.inl ⟨by rfl, ?h4⟩) (by assumption) ?r4
        case h4 => (intro w hSw; (try dsimp only at hSw); go_simp; all_goals with_reducible rfl)
        simp only [Act.put, List.setIfInBounds_toArray, List.set_cons_zero, List.set_cons_succ]
        refine Wh.take (i := 5) (d := some 49) (v := ?v5) rfl (by rfl) (by kernel_rfl) (by kernel_rfl) (by kernel_rfl) (fun _ _ _ h => h) (Or.inl ⟨by rfl, ?h5⟩) (by assumption) ?r5
        case h5 => (intro w hSw; (try dsimp only at hSw); go_simp; all_goals with_reducible rfl)
        simp only [Act.put, List.setIfInBounds_toArray, List.set_cons_zero, List.set_cons_succ]
        refine Wh.take (i := 6) (d := some 50) (v := ?v6) rfl (by rfl) (by kernel_rfl) (by kernel_rfl) (by kernel_rfl) (fun _ _ _ h => h) (Or.inl ⟨by rfl, ?h6⟩) (by assumption) ?r6
        case h6 => (intro w hSw; (try dsimp only at hSw); go_simp; all_goals with_reducible rfl)
        simp only [Act.put, List.setIfInBounds_toArray, List.set_cons_zero, List.set_cons_succ]
        refine Wh.take (i := 7) (d := some 51) (v := ?v7) rfl (by rfl) (by kernel_rfl) (by kernel_rfl) (by kernel_rfl) (fun _ _ _ h => h) (Or.inl ⟨by rfl, ?h7⟩) (by assumption) ?r7
        case h7 => (intro w hSw; (try dsimp only at hSw); go_simp; all_goals with_reducible rfl)
        simp only [Act.put, List.setIfInBounds_toArray, List.set_cons_zero, List.set_cons_succ]
        refine Wh.take (i := 8) (d := some 52) (v := ?v8) rfl (by rfl) (by kernel_rfl) (by kernel_rfl) (by kernel_rfl) (fun _ _ _ h => h) (Or.inl ⟨by rfl, ?h8⟩) (by assumption) ?r8
        case h8 => (intro w hSw; (try dsimp only at hSw); go_simp; all_goals with_reducible rfl)
        simp only [Act.put, List.setIfInBounds_toArray, List.set_cons_zero, List.set_cons_succ]
        refine Wh.take (i := 9) (d := some 53) (v := ?v9) rfl (by rfl) (by kernel_rfl) (by kernel_rfl) (by kernel_rfl) (fun _ _ _ h => h) (Or.inl ⟨by rfl, ?h9⟩) (by assumption) ?r9
        case h9 => (intro w hSw; (try dsimp only at hSw); go_simp; all_goals with_reducible rfl)
        simp only [Act.put, List.setIfInBounds_toArray, List.set_cons_zero, List.set_cons_succ]
        refine Wh.take (i := 10) (d := some 54) (v := ?v10) rfl (by rfl) (by kernel_rfl) (by kernel_rfl) (by kernel_rfl) (fun _ _ _ h => h) (Or.inl ⟨by rfl, ?h10⟩) (by assumption) ?r10
        case h10 => (intro w hSw; (try dsimp only at hSw); go_simp; all_goals with_reducible rfl)
        simp only [Act.put, List.setIfInBounds_toArray, List.set_cons_zero, List.set_cons_succ]
        refine Wh.take (i := 11) (d := some 55) (v := ?v11) rfl (by rfl) (by kernel_rfl) (by kernel_rfl) (by kernel_rfl) (fun _ _ _ h => h) (Or.inl ⟨by rfl, ?h11⟩) (by assumption) ?r11
        case h11 => (intro w hSw; (try dsimp only at hSw); go_simp; all_goals with_reducible rfl)
        simp only [Act.put, List.setIfInBounds_toArray, List.set_cons_zero, List.set_cons_succ]
        refine Wh.take (i := 12) (d := some 56) (v := ?v12) rfl (by rfl) (by kernel_rfl) (by kernel_rfl) (by kernel_rfl) (fun _ _ _ h => h) (Or.inl ⟨by rfl, ?h12⟩) (by assumption) ?r12
        case h12 => (intro w hSw; (try dsimp only at hSw); go_simp; all_goals with_reducible rfl)
        simp only [Act.put, List.setIfInBounds_toArray, List.set_cons_zero, List.set_cons_succ]
        refine Wh.take (i := 13) (d := some 57) (v := ?v13) rfl (by rfl) (by kernel_rfl) (by kernel_rfl) (by kernel_rfl) (fun _ _ _ h => h) (Or.inl ⟨by rfl, ?h13⟩) (by assumption) ?r13
        case h13 => (intro w hSw; (try dsimp only at hSw); go_simp; all_goals with_reducible rfl)
        simp only [Act.put, List.setIfInBounds_toArray, List.set_cons_zero, List.set_cons_succ]
        refine Wh.take (i := 14) (d := some 58) (v := ?v14) rfl (by rfl) (by kernel_rfl) (by kernel_rfl) (by kernel_rfl) (fun _ _ _ h => h) (Or.inl ⟨by rfl, ?h14⟩) (by assumption) ?r14
        case h14 => (intro w hSw; (try dsimp only at hSw); go_simp; all_goals with_reducible rfl)
        simp only [Act.put, List.setIfInBounds_toArray, List.set_cons_zero, List.set_cons_succ]
        refine Wh.take (i := 16) (d := some 60) (v := ?v16) rfl (by rfl) (by kernel_rfl) (by kernel_rfl) (by kernel_rfl) (fun _ _ _ h => h) (Or.inl ⟨by rfl, ?h16⟩) (by assumption) ?r16
        case h16 => (intro w hSw; (try dsimp only at hSw); go_simp; all_goals with_reducible rfl)
        simp only [Act.put, List.setIfInBounds_toArray, List.set_cons_zero, List.set_cons_succ]
        refine wpAnyH_ready (rs := [15, 17]) (by kernel_rfl) (by simp) ?_
        refine AllReadyH.cons rfl (fun K hK => ?_) (AllReadyH.cons rfl (fun K hK => ?_) AllReadyH.nil)
        · go_simp
          refine hK.out _ _ ⟨g0, t0, t1, t2⟩ (fun hHeld => ?_)
          clear hK K
          refine wpAnyH_ready (rs := [17]) (by kernel_rfl) (by simp) ?_
          refine AllReadyH.cons rfl (fun K hK => ?_) AllReadyH.nil
          go_simp
          refine hK.out _ _ ⟨k0, k2, k3, k4⟩ (fun hHeld => ?_)
          clear hK K
          refine wpAnyH_ready (rs := [18]) (by kernel_rfl) (by simp) ?_
          refine AllReadyH.cons rfl (fun K hK => ?_) AllReadyH.nil
          refine Wh.step_append_tm _ (by rfl) _ _ (by rfl) base v l ⟨ti, td, tt⟩ hwf w3.heap.size 1 (by rfl) (hT.keeps (((Only.refl NoBlock _).alloc _).drew) (fun _ _ h => h)) (by rfl) (Wh.tm_made _ _ _ _ _ (by rfl)) HLL.out (by simp; omega) ?_
          intro v6 w6 ht6 hg6 hor6
          obtain ⟨a6, c6, rfl⟩ := ht6.shape
          have hE := HE hg6 ht6 hor6
          have hg7 := Wh.grown_pre (((Only.refl NoBlock w3).alloc _).drew) hg6
          have q0 : w6.cell? ⟨p, 2, none⟩ = some (.slice (some ⟨r0, 0, none⟩) 64 64) := (World.cell?_of_block (hg7.block p lP (fun e => aP e.symm))).trans g0
          have q1 : w6.cell? ⟨r0, k, none⟩ = some v := (World.cell?_of_block (hg7.block r0 lR (fun e => aR e.symm))).trans hc
          have q2 : w6.cell? ⟨B, 0, none⟩ = some (.int .i64 ti) := (World.cell?_of_block (hg7.block B lB (fun e => hBne e.symm))).trans t0
          have q3 : w6.cell? ⟨B, 1, none⟩ = some (.int .u64 td) := (World.cell?_of_block (hg7.block B lB (fun e => hBne e.symm))).trans t1
          have q4 : w6.cell? ⟨B, 2, none⟩ = some (.int .i64 tt) := (World.cell?_of_block (hg7.block B lB (fun e => hBne e.symm))).trans t2
          have fR6 : w6.frozen? ⟨r0, k, none⟩ = false := (World.frozen?_of_block (hg7.block r0 lR (fun e => aR e.symm))).trans fR
          have z0 : ∀ u, (w6.setCell ⟨r0, k, none⟩ u).cell? ⟨p, 2, none⟩ = some (.slice (some ⟨r0, 0, none⟩) 64 64) := fun u => (World.cell?_setCell_far w6 _ _ u (fun e => nR e.symm)).trans q0
          have z2 : ∀ u, (w6.setCell ⟨r0, k, none⟩ u).cell? ⟨B, 0, none⟩ = some (.int .i64 ti) := fun u => (World.cell?_setCell_far w6 _ _ u (fun e => nB e)).trans q2
          have z3 : ∀ u, (w6.setCell ⟨r0, k, none⟩ u).cell? ⟨B, 1, none⟩ = some (.int .u64 td) := fun u => (World.cell?_setCell_far w6 _ _ u (fun e => nB e)).trans q3
          have z4 : ∀ u, (w6.setCell ⟨r0, k, none⟩ u).cell? ⟨B, 2, none⟩ = some (.int .i64 tt) := fun u => (World.cell?_setCell_far w6 _ _ u (fun e => nB e)).trans q4
          refine hK.out _ _ ⟨q0, q2, q3, q4⟩ (fun hHeld => ?_)
          clear hK K
          try simp only [Act.put, List.setIfInBounds_toArray]
          refine Wh.take (i := 19) (d := some 63) (v := ?v19) rfl (by rfl) (by kernel_rfl) (by kernel_rfl) (by kernel_rfl) (fun _ _ _ h => h) (Or.inl ⟨by rfl, ?h19⟩) (by assumption) ?r19
          case h19 => (intro w hSw; (try dsimp only at hSw); go_simp; all_goals with_reducible rfl)
          simp only [Act.put]
          refine wpAnyH_ready (rs := [20]) (by kernel_rfl) (by simp) ?_
          refine AllReadyH.cons rfl (fun K hK => ?_) AllReadyH.nil
          go_simp
          refine hK.out _ _ ⟨z0 _, z2 _, z3 _, z4 _⟩ (fun hHeld => ?_)
          clear hK K
          refine wpAnyH_done (by kernel_rfl) ?_ _
          try simp only [Act.put, List.setIfInBounds_toArray, List.set_cons_zero, List.set_cons_succ]
          rw [List.length_append] at hE
          simp only [List.length_cons, List.length_nil, Nat.zero_add] at hE
          generalize w6.setCell ⟨r0, k, none⟩ (.slice a6 (l.length + 1) c6) = w7 at hE ⊢
          clear z0 z2 z3 z4 q0 q1 q2 q3 q4 fR6 hg7 hg6 ht6 hor6 hHeld
          go_wp2_with fail
          refine bodyPost_ret (results_none rfl _ _ _) rfl ⟨⟨_, rfl⟩, ?_⟩
          rw [HMUL.out]
          exact hE
        · go_simp
          refine hK.out _ _ ⟨k0, k2, k3, k4⟩ (fun hHeld => ?_)
          clear hK K
          refine wpAnyH_ready (rs := [15]) (by kernel_rfl) (by simp) ?_
          refine AllReadyH.cons rfl (fun K hK => ?_) AllReadyH.nil
          go_simp
          refine hK.out _ _ ⟨k0, k2, k3, k4⟩ (fun hHeld => ?_)
          clear hK K
          refine wpAnyH_ready (rs := [18]) (by kernel_rfl) (by simp) ?_
          refine AllReadyH.cons rfl (fun K hK => ?_) AllReadyH.nil
          refine Wh.step_append_tm _ (by rfl) _ _ (by rfl) base v l ⟨ti, td, tt⟩ hwf w3.heap.size 1 (by rfl) (hT.keeps (((Only.refl NoBlock _).alloc _).drew) (fun _ _ h => h)) (by rfl) (Wh.tm_made _ _ _ _ _ (by rfl)) HLL.out (by simp; omega) ?_
          intro v6 w6 ht6 hg6 hor6
          obtain ⟨a6, c6, rfl⟩ := ht6.shape
          have hE := HE hg6 ht6 hor6
          have hg7 := Wh.grown_pre (((Only.refl NoBlock w3).alloc _).drew) hg6
          have q0 : w6.cell? ⟨p, 2, none⟩ = some (.slice (some ⟨r0, 0, none⟩) 64 64) := (World.cell?_of_block (hg7.block p lP (fun e => aP e.symm))).trans g0
          have q1 : w6.cell? ⟨r0, k, none⟩ = some v := (World.cell?_of_block (hg7.block r0 lR (fun e => aR e.symm))).trans hc
          have q2 : w6.cell? ⟨B, 0, none⟩ = some (.int .i64 ti) := (World.cell?_of_block (hg7.block B lB (fun e => hBne e.symm))).trans t0
          have q3 : w6.cell? ⟨B, 1, none⟩ = some (.int .u64 td) := (World.cell?_of_block (hg7.block B lB (fun e => hBne e.symm))).trans t1
          have q4 : w6.cell? ⟨B, 2, none⟩ = some (.int .i64 tt) := (World.cell?_of_block (hg7.block B lB (fun e => hBne e.symm))).trans t2
          have fR6 : w6.frozen? ⟨r0, k, none⟩ = false := (World.frozen?_of_block (hg7.block r0 lR (fun e => aR e.symm))).trans fR
          have z0 : ∀ u, (w6.setCell ⟨r0, k, none⟩ u).cell? ⟨p, 2, none⟩ = some (.slice (some ⟨r0, 0, none⟩) 64 64) := fun u => (World.cell?_setCell_far w6 _ _ u (fun e => nR e.symm)).trans q0
          have z2 : ∀ u, (w6.setCell ⟨r0, k, none⟩ u).cell? ⟨B, 0, none⟩ = some (.int .i64 ti) := fun u => (World.cell?_setCell_far w6 _ _ u (fun e => nB e)).trans q2
          have z3 : ∀ u, (w6.setCell ⟨r0, k, none⟩ u).cell? ⟨B, 1, none⟩ = some (.int .u64 td) := fun u => (World.cell?_setCell_far w6 _ _ u (fun e => nB e)).trans q3
          have z4 : ∀ u, (w6.setCell ⟨r0, k, none⟩ u).cell? ⟨B, 2, none⟩ = some (.int .i64 tt) := fun u => (World.cell?_setCell_far w6 _ _ u (fun e => nB e)).trans q4
          refine hK.out _ _ ⟨q0, q2, q3, q4⟩ (fun hHeld => ?_)
          clear hK K
          try simp only [Act.put, List.setIfInBounds_toArray]
          refine Wh.take (i := 19) (d := some 63) (v := ?w19) rfl (by rfl) (by kernel_rfl) (by kernel_rfl) (by kernel_rfl) (fun _ _ _ h => h) (Or.inl ⟨by rfl, ?g19⟩) (by assumption) ?s19
          case g19 => (intro w hSw; (try dsimp only at hSw); go_simp; all_goals with_reducible rfl)
          simp only [Act.put]
          refine wpAnyH_ready (rs := [20]) (by kernel_rfl) (by simp) ?_
          refine AllReadyH.cons rfl (fun K hK => ?_) AllReadyH.nil
          go_simp
          refine hK.out _ _ ⟨z0 _, z2 _, z3 _, z4 _⟩ (fun hHeld => ?_)
          clear hK K
          refine wpAnyH_done (by kernel_rfl) ?_ _
          try simp only [Act.put, List.setIfInBounds_toArray, List.set_cons_zero, List.set_cons_succ]
          rw [List.length_append] at hE
          simp only [List.length_cons, List.length_nil, Nat.zero_add] at hE
          generalize w6.setCell ⟨r0, k, none⟩ (.slice a6 (l.length + 1) c6) = w7 at hE ⊢
          clear z0 z2 z3 z4 q0 q1 q2 q3 q4 fR6 hg7 hg6 ht6 hor6 hHeld
          go_wp2_with fail
          refine bodyPost_ret (results_none rfl _ _ _) rfl ⟨⟨_, rfl⟩, ?_⟩
          rw [HMUL.out]
          exact hE
      · have hb : (((td : Int) / 64) == ((M.now : Int) / 64)) = false := by rw [beq_eq_false_iff_ne]; omega
        have HC2 : RowKit.Hid ((1 ≤ 1 → ¬ td / 64 = M.now / 64) ∧ (2 ≤ 1 → ¬ td / 8192 = M.now / 8192) ∧ (3 ≤ 1 → ¬ td / 2097152 = M.now / 2097152)) := Lib.hid ⟨fun _ => he, by omega, by omega⟩
        clear he
        go_upto_region 5 with fail
        go_region
        go_wp2_with fail
        go_roundw
        case rel => exact ⟨1, by omega, rfl, hOr.drew, HC2⟩
        case measure => simp [intOf]
    · -- ring 1
      by_cases he : td / 8192 = M.now / 8192
      · have hb : (((td : Int) / 8192) == ((M.now : Int) / 8192)) = true := by rw [beq_iff_eq]; omega
        obtain ⟨k, hk⟩ : ∃ k, td / 64 % 128 = k := ⟨_, rfl⟩
        have hk64 : k < 128 := by omega
        have hm : bits .and .u64 ((td : Int) / 64) 127 = (k : Int) := by have := Wh.mask (x := td / 64) 7 (by decide) (by omega); rw [← hk]; simpa using this
        have hqk : q = 64 + k := by rw [← HQ.out]; unfold Wh.place; rw [if_neg (HC.out.1 (by omega)), if_pos he, hk]
        go_upto_region 5 with fail
        go_region
        go_upto_region 6 with fail
        go_region
        have hPw := HPr.out.keeps (((Only.refl NoBlock wr).drew).drew)
        have hO4 := (hO3.drew).drew
        have t0 := Wh.cell_same (((Only.refl NoBlock wr).drew).drew) t0
        have t1 := Wh.cell_same (((Only.refl NoBlock wr).drew).drew) t1
        have t2 := Wh.cell_same (((Only.refl NoBlock wr).drew).drew) t2
        have g1 := Wh.cell_same (((Only.refl NoBlock wr).drew).drew) g1
        generalize wr.drew.drew = w3 at hPw hO4 t0 t1 t2 g1 ⊢
        have hV := HV.out.keeps hO4
        obtain ⟨hc, hT⟩ := hV.at_ q hql
        have hloc : Wh.loc p r0 r1 r2 q = ⟨r1, k, none⟩ := by rw [hqk, Wh.loc1 hk64]
        rw [hloc] at hc
        obtain ⟨v, hv⟩ : ∃ v, V q = v := ⟨_, rfl⟩
        obtain ⟨l, hl⟩ : ∃ l, M.L q = l := ⟨_, rfl⟩
        have HE : ∀ {w6 : World} {v' : Value} {o : Obj}, (w3.alloc o).drew.grownBy w6 v.ownBlock → Wh.Tms w6 base v' (l ++ [⟨ti, td, tt⟩]) → (v'.ownBlock = v.ownBlock ∨ v'.ownBlock = some (w3.alloc o).drew.heap.size) → Wh.WheelAt (w6.setCell ⟨r1, k, none⟩ v') base X p r0 r1 r2 (M.upd q (l ++ [⟨ti, td, tt⟩])) ∧ Only (fun k => base ≤ k ∧ ¬ X k) w (w6.setCell ⟨r1, k, none⟩ v') := by
          intro w6 v' o hg ht hor
          have := Wh.put_end hPw hV hql (by rw [hv]; exact hg) ht (by rw [hv]; exact hor)
          rw [hloc] at this
          exact ⟨this.1, hO4.of_no.trans this.2⟩
        have hBne : ¬ (v.ownBlock = some B) := fun e => HOWN.out B (by rw [hv]; exact e) rfl
        rw [hv, hl] at hT
        rw [hv] at hc
        have HLL : RowKit.Hid (l.length < 1000000) := Lib.hid (by rw [← hl]; exact HL.out)
        have HMUL := Lib.hid hl
        obtain ⟨cP, hbP, -⟩ := hPw.bp
        obtain ⟨cR, hbR, -⟩ := hPw.b1
        have aP := hT.apart hbP (by decide)
        have aR := hT.apart hbR (by decide)
        have hbase := Wh.base_le hPw
        have nR := hPw.nes.2.1
        have nB : r1 ≠ B := by have := HRB.out.2.1; omega
        have hwf : (⟨ti, td, tt⟩ : Wh.Tm).Wf := ⟨hw1, hw2, hw3⟩
        have fR := hbR.free k
        have lP := hbP.lt
        have lB := World.block_lt_of_cell? w3 _ t0
        have lR := hbR.lt
        clear hv hl hV hPw hqk hk hm hb he
        have i1 : (0 : Int) ≤ (k : Int) := by omega
        have i2 : (k : Int) < 128 := by omega
        have i3 : (k : Int) < ((128 : Nat) : Int) := by omega
        have i4 : (k : Int).toNat = k := by omega
        have hA3 := ((Only.refl NoBlock w3).alloc (Obj.cells #[.int .i64 ti, .int .u64 td, .int .i64 tt] 53)).drew
        have k0 := Wh.cell_same hA3 g1
        have k2 := Wh.cell_same hA3 t0
        have k3 := Wh.cell_same hA3 t1
        have k4 := Wh.cell_same hA3 t2
        have k1 := Wh.cell_same hA3 hc
        go_upto_region 7 with fail
        refine wp_region_held_drew (S := (fun w' => w'.cell? ⟨p, 3, none⟩ = some (.slice (some ⟨r1, 0, none⟩) 128 128) ∧ w'.cell? ⟨B, 0, none⟩ = some (.int .i64 ti) ∧ w'.cell? ⟨B, 1, none⟩ = some (.int .u64 td) ∧ w'.cell? ⟨B, 2, none⟩ = some (.int .i64 tt))) (by kernel_rfl) ?_ (fun hHeld => ?_)
        · exact ⟨g1, t0, t1, t2⟩
        refine Wh.take (i := 0) (d := some 44) (v := ?v1_0) rfl (by rfl) (by kernel_rfl) (by kernel_rfl) (by kernel_rfl) (fun _ _ _ h => h) (Or.inl ⟨by rfl, ?h1_0⟩) (by assumption) ?r1_0
        case h1_0 => (intro w hSw; (try dsimp only at hSw); go_simp; all_goals with_reducible rfl)
        simp only [Act.put, List.setIfInBounds_toArray, List.set_cons_zero, List.set_cons_succ]
        refine Wh.take (i := 1) (d := some 45) (v := ?v1_1) rfl (by rfl) (by kernel_rfl) (by kernel_rfl) (by kernel_rfl) (fun _ _ _ h => h) (Or.inl ⟨by rfl, ?h1_1⟩) (by assumption) ?r1_1
        case h1_1 => (intro w hSw; (try dsimp only at hSw); go_simp; all_goals with_reducible rfl)
        simp only [Act.put, List.setIfInBounds_toArray, List.set_cons_zero, List.set_cons_succ]
        refine Wh.take (i := 2) (d := some 46) (v := ?v1_2) rfl (by rfl) (by kernel_rfl) (by kernel_rfl) (by kernel_rfl) (fun _ _ _ h => h) (Or.inl ⟨by rfl, ?h1_2⟩) (by assumption) ?r1_2
        case h1_2 => (intro w hSw; (try dsimp only at hSw); go_simp; all_goals with_reducible rfl)
        simp only [Act.put, List.setIfInBounds_toArray, List.set_cons_zero, List.set_cons_succ]
        refine Wh.take (i := 3) (d := some 47) (v := ?v1_3) rfl (by rfl) (by kernel_rfl) (by kernel_rfl) (by kernel_rfl) (fun _ _ _ h => h) (Or.inl ⟨by rfl, ?h1_3⟩) (by assumption) ?r1_3
        case h1_3 => (intro w hSw; (try dsimp only at hSw); go_simp; all_goals with_reducible rfl)
        simp only [Act.put, List.setIfInBounds_toArray, List.set_cons_zero, List.set_cons_succ]
        refine Wh.take (i := 4) (d := some 48) (v := ?v1_4) rfl (by rfl) (by kernel_rfl) (by kernel_rfl) (by kernel_rfl) (fun _ _ _ h => h) (Or.inl ⟨by rfl, ?h1_4⟩) (by assumption) ?r1_4
        case h1_4 => (intro w hSw; (try dsimp only at hSw); go_simp; all_goals with_reducible rfl)
        simp only [Act.put, List.setIfInBounds_toArray, List.set_cons_zero, List.set_cons_succ]
        refine Wh.take (i := 5) (d := some 49) (v := ?v1_5) rfl (by rfl) (by kernel_rfl) (by kernel_rfl) (by kernel_rfl) (fun _ _ _ h => h) (Or.inl ⟨by rfl, ?h1_5⟩) (by assumption) ?r1_5
        case h1_5 => (intro w hSw; (try dsimp only at hSw); go_simp; all_goals with_reducible rfl)
        simp only [Act.put, List.setIfInBounds_toArray, List.set_cons_zero, List.set_cons_succ]
        refine Wh.take (i := 6) (d := some 50) (v := ?v1_6) rfl (by rfl) (by kernel_rfl) (by kernel_rfl) (by kernel_rfl) (fun _ _ _ h => h) (Or.inl ⟨by rfl, ?h1_6⟩) (by assumption) ?r1_6
        case h1_6 => (intro w hSw; (try dsimp only at hSw); go_simp; all_goals with_reducible rfl)
        simp only [Act.put, List.setIfInBounds_toArray, List.set_cons_zero, List.set_cons_succ]
        refine Wh.take (i := 7) (d := some 51) (v := ?v1_7) rfl (by rfl) (by kernel_rfl) (by kernel_rfl) (by kernel_rfl) (fun _ _ _ h => h) (Or.inl ⟨by rfl, ?h1_7⟩) (by assumption) ?r1_7
        case h1_7 => (intro w hSw; (try dsimp only at hSw); go_simp; all_goals with_reducible rfl)
        simp only [Act.put, List.setIfInBounds_toArray, List.set_cons_zero, List.set_cons_succ]
        refine Wh.take (i := 8) (d := some 52) (v := ?v1_8) rfl (by rfl) (by kernel_rfl) (by kernel_rfl) (by kernel_rfl) (fun _ _ _ h => h) (Or.inl ⟨by rfl, ?h1_8⟩) (by assumption) ?r1_8
        case h1_8 => (intro w hSw; (try dsimp only at hSw); go_simp; all_goals with_reducible rfl)
        simp only [Act.put, List.setIfInBounds_toArray, List.set_cons_zero, List.set_cons_succ]
        refine Wh.take (i := 9) (d := some 53) (v := ?v1_9) rfl (by rfl) (by kernel_rfl) (by kernel_rfl) (by kernel_rfl) (fun _ _ _ h => h) (Or.inl ⟨by rfl, ?h1_9⟩) (by assumption) ?r1_9
        case h1_9 => (intro w hSw; (try dsimp only at hSw); go_simp; all_goals with_reducible rfl)
        simp only [Act.put, List.setIfInBounds_toArray, List.set_cons_zero, List.set_cons_succ]
        refine Wh.take (i := 10) (d := some 54) (v := ?v1_10) rfl (by rfl) (by kernel_rfl) (by kernel_rfl) (by kernel_rfl) (fun _ _ _ h => h) (Or.inl ⟨by rfl, ?h1_10⟩) (by assumption) ?r1_10
        case h1_10 => (intro w hSw; (try dsimp only at hSw); go_simp; all_goals with_reducible rfl)
        simp only [Act.put, List.setIfInBounds_toArray, List.set_cons_zero, List.set_cons_succ]
        refine Wh.take (i := 11) (d := some 55) (v := ?v1_11) rfl (by rfl) (by kernel_rfl) (by kernel_rfl) (by kernel_rfl) (fun _ _ _ h => h) (Or.inl ⟨by rfl, ?h1_11⟩) (by assumption) ?r1_11
        case h1_11 => (intro w hSw; (try dsimp only at hSw); go_simp; all_goals with_reducible rfl)
        simp only [Act.put, List.setIfInBounds_toArray, List.set_cons_zero, List.set_cons_succ]
        refine Wh.take (i := 12) (d := some 56) (v := ?v1_12) rfl (by rfl) (by kernel_rfl) (by kernel_rfl) (by kernel_rfl) (fun _ _ _ h => h) (Or.inl ⟨by rfl, ?h1_12⟩) (by assumption) ?r1_12
        case h1_12 => (intro w hSw; (try dsimp only at hSw); go_simp; all_goals with_reducible rfl)
        simp only [Act.put, List.setIfInBounds_toArray, List.set_cons_zero, List.set_cons_succ]
        refine Wh.take (i := 13) (d := some 57) (v := ?v1_13) rfl (by rfl) (by kernel_rfl) (by kernel_rfl) (by kernel_rfl) (fun _ _ _ h => h) (Or.inl ⟨by rfl, ?h1_13⟩) (by assumption) ?r1_13
        case h1_13 => (intro w hSw; (try dsimp only at hSw); go_simp; all_goals with_reducible rfl)
        simp only [Act.put, List.setIfInBounds_toArray, List.set_cons_zero, List.set_cons_succ]
        refine Wh.take (i := 14) (d := some 58) (v := ?v1_14) rfl (by rfl) (by kernel_rfl) (by kernel_rfl) (by kernel_rfl) (fun _ _ _ h => h) (Or.inl ⟨by rfl, ?h1_14⟩) (by assumption) ?r1_14
        case h1_14 => (intro w hSw; (try dsimp only at hSw); go_simp; all_goals with_reducible rfl)
        simp only [Act.put, List.setIfInBounds_toArray, List.set_cons_zero, List.set_cons_succ]
        refine Wh.take (i := 16) (d := some 60) (v := ?v1_16) rfl (by rfl) (by kernel_rfl) (by kernel_rfl) (by kernel_rfl) (fun _ _ _ h => h) (Or.inl ⟨by rfl, ?h1_16⟩) (by assumption) ?r1_16
        case h1_16 => (intro w hSw; (try dsimp only at hSw); go_simp; all_goals with_reducible rfl)
        simp only [Act.put, List.setIfInBounds_toArray, List.set_cons_zero, List.set_cons_succ]
        refine wpAnyH_ready (rs := [15, 17]) (by kernel_rfl) (by simp) ?_
        refine AllReadyH.cons rfl (fun K hK => ?_) (AllReadyH.cons rfl (fun K hK => ?_) AllReadyH.nil)
        · go_simp
          refine hK.out _ _ ⟨g1, t0, t1, t2⟩ (fun hHeld => ?_)
          clear hK K
          refine wpAnyH_ready (rs := [17]) (by kernel_rfl) (by simp) ?_
          refine AllReadyH.cons rfl (fun K hK => ?_) AllReadyH.nil
          go_simp
          refine hK.out _ _ ⟨k0, k2, k3, k4⟩ (fun hHeld => ?_)
          clear hK K
          refine wpAnyH_ready (rs := [18]) (by kernel_rfl) (by simp) ?_
          refine AllReadyH.cons rfl (fun K hK => ?_) AllReadyH.nil
          refine Wh.step_append_tm _ (by rfl) _ _ (by rfl) base v l ⟨ti, td, tt⟩ hwf w3.heap.size 1 (by rfl) (hT.keeps (((Only.refl NoBlock _).alloc _).drew) (fun _ _ h => h)) (by rfl) (Wh.tm_made _ _ _ _ _ (by rfl)) HLL.out (by simp; omega) ?_
          intro v6 w6 ht6 hg6 hor6
          obtain ⟨a6, c6, rfl⟩ := ht6.shape
          have hE := HE hg6 ht6 hor6
          have hg7 := Wh.grown_pre (((Only.refl NoBlock w3).alloc _).drew) hg6
          have q0 : w6.cell? ⟨p, 3, none⟩ = some (.slice (some ⟨r1, 0, none⟩) 128 128) := (World.cell?_of_block (hg7.block p lP (fun e => aP e.symm))).trans g1
          have q1 : w6.cell? ⟨r1, k, none⟩ = some v := (World.cell?_of_block (hg7.block r1 lR (fun e => aR e.symm))).trans hc
          have q2 : w6.cell? ⟨B, 0, none⟩ = some (.int .i64 ti) := (World.cell?_of_block (hg7.block B lB (fun e => hBne e.symm))).trans t0
          have q3 : w6.cell? ⟨B, 1, none⟩ = some (.int .u64 td) := (World.cell?_of_block (hg7.block B lB (fun e => hBne e.symm))).trans t1
          have q4 : w6.cell? ⟨B, 2, none⟩ = some (.int .i64 tt) := (World.cell?_of_block (hg7.block B lB (fun e => hBne e.symm))).trans t2
          have fR6 : w6.frozen? ⟨r1, k, none⟩ = false := (World.frozen?_of_block (hg7.block r1 lR (fun e => aR e.symm))).trans fR
          have z0 : ∀ u, (w6.setCell ⟨r1, k, none⟩ u).cell? ⟨p, 3, none⟩ = some (.slice (some ⟨r1, 0, none⟩) 128 128) := fun u => (World.cell?_setCell_far w6 _ _ u (fun e => nR e.symm)).trans q0
          have z2 : ∀ u, (w6.setCell ⟨r1, k, none⟩ u).cell? ⟨B, 0, none⟩ = some (.int .i64 ti) := fun u => (World.cell?_setCell_far w6 _ _ u (fun e => nB e)).trans q2
          have z3 : ∀ u, (w6.setCell ⟨r1, k, none⟩ u).cell? ⟨B, 1, none⟩ = some (.int .u64 td) := fun u => (World.cell?_setCell_far w6 _ _ u (fun e => nB e)).trans q3
          have z4 : ∀ u, (w6.setCell ⟨r1, k, none⟩ u).cell? ⟨B, 2, none⟩ = some (.int .i64 tt) := fun u => (World.cell?_setCell_far w6 _ _ u (fun e => nB e)).trans q4
          refine hK.out _ _ ⟨q0, q2, q3, q4⟩ (fun hHeld => ?_)
          clear hK K
          try simp only [Act.put, List.setIfInBounds_toArray]
          refine Wh.take (i := 19) (d := some 63) (v := ?v1_19) rfl (by rfl) (by kernel_rfl) (by kernel_rfl) (by kernel_rfl) (fun _ _ _ h => h) (Or.inl ⟨by rfl, ?h1_19⟩) (by assumption) ?r1_19
          case h1_19 => (intro w hSw; (try dsimp only at hSw); go_simp; all_goals with_reducible rfl)
          simp only [Act.put]
          refine wpAnyH_ready (rs := [20]) (by kernel_rfl) (by simp) ?_
          refine AllReadyH.cons rfl (fun K hK => ?_) AllReadyH.nil
          go_simp
          refine hK.out _ _ ⟨z0 _, z2 _, z3 _, z4 _⟩ (fun hHeld => ?_)
          clear hK K
          refine wpAnyH_done (by kernel_rfl) ?_ _
          try simp only [Act.put, List.setIfInBounds_toArray, List.set_cons_zero, List.set_cons_succ]
          rw [List.length_append] at hE
          simp only [List.length_cons, List.length_nil, Nat.zero_add] at hE
          generalize w6.setCell ⟨r1, k, none⟩ (.slice a6 (l.length + 1) c6) = w7 at hE ⊢
          clear z0 z2 z3 z4 q0 q1 q2 q3 q4 fR6 hg7 hg6 ht6 hor6 hHeld
          go_wp2_with fail
          refine bodyPost_ret (results_none rfl _ _ _) rfl ⟨⟨_, rfl⟩, ?_⟩
          rw [HMUL.out]
          exact hE
        · go_simp
          refine hK.out _ _ ⟨k0, k2, k3, k4⟩ (fun hHeld => ?_)
          clear hK K
          refine wpAnyH_ready (rs := [15]) (by kernel_rfl) (by simp) ?_
          refine AllReadyH.cons rfl (fun K hK => ?_) AllReadyH.nil
          go_simp
          refine hK.out _ _ ⟨k0, k2, k3, k4⟩ (fun hHeld => ?_)
          clear hK K
          refine wpAnyH_ready (rs := [18]) (by kernel_rfl) (by simp) ?_
          refine AllReadyH.cons rfl (fun K hK => ?_) AllReadyH.nil
          refine Wh.step_append_tm _ (by rfl) _ _ (by rfl) base v l ⟨ti, td, tt⟩ hwf w3.heap.size 1 (by rfl) (hT.keeps (((Only.refl NoBlock _).alloc _).drew) (fun _ _ h => h)) (by rfl) (Wh.tm_made _ _ _ _ _ (by rfl)) HLL.out (by simp; omega) ?_
          intro v6 w6 ht6 hg6 hor6
          obtain ⟨a6, c6, rfl⟩ := ht6.shape
          have hE := HE hg6 ht6 hor6
          have hg7 := Wh.grown_pre (((Only.refl NoBlock w3).alloc _).drew) hg6
          have q0 : w6.cell? ⟨p, 3, none⟩ = some (.slice (some ⟨r1, 0, none⟩) 128 128) := (World.cell?_of_block (hg7.block p lP (fun e => aP e.symm))).trans g1
          have q1 : w6.cell? ⟨r1, k, none⟩ = some v := (World.cell?_of_block (hg7.block r1 lR (fun e => aR e.symm))).trans hc
          have q2 : w6.cell? ⟨B, 0, none⟩ = some (.int .i64 ti) := (World.cell?_of_block (hg7.block B lB (fun e => hBne e.symm))).trans t0
          have q3 : w6.cell? ⟨B, 1, none⟩ = some (.int .u64 td) := (World.cell?_of_block (hg7.block B lB (fun e => hBne e.symm))).trans t1
          have q4 : w6.cell? ⟨B, 2, none⟩ = some (.int .i64 tt) := (World.cell?_of_block (hg7.block B lB (fun e => hBne e.symm))).trans t2
          have fR6 : w6.frozen? ⟨r1, k, none⟩ = false := (World.frozen?_of_block (hg7.block r1 lR (fun e => aR e.symm))).trans fR
          have z0 : ∀ u, (w6.setCell ⟨r1, k, none⟩ u).cell? ⟨p, 3, none⟩ = some (.slice (some ⟨r1, 0, none⟩) 128 128) := fun u => (World.cell?_setCell_far w6 _ _ u (fun e => nR e.symm)).trans q0
          have z2 : ∀ u, (w6.setCell ⟨r1, k, none⟩ u).cell? ⟨B, 0, none⟩ = some (.int .i64 ti) := fun u => (World.cell?_setCell_far w6 _ _ u (fun e => nB e)).trans q2
          have z3 : ∀ u, (w6.setCell ⟨r1, k, none⟩ u).cell? ⟨B, 1, none⟩ = some (.int .u64 td) := fun u => (World.cell?_setCell_far w6 _ _ u (fun e => nB e)).trans q3
          have z4 : ∀ u, (w6.setCell ⟨r1, k, none⟩ u).cell? ⟨B, 2, none⟩ = some (.int .i64 tt) := fun u => (World.cell?_setCell_far w6 _ _ u (fun e => nB e)).trans q4
          refine hK.out _ _ ⟨q0, q2, q3, q4⟩ (fun hHeld => ?_)
          clear hK K
          try simp only [Act.put, List.setIfInBounds_toArray]
          refine Wh.take (i := 19) (d := some 63) (v := ?w1_19) rfl (by rfl) (by kernel_rfl) (by kernel_rfl) (by kernel_rfl) (fun _ _ _ h => h) (Or.inl ⟨by rfl, ?g1_19⟩) (by assumption) ?s1_19
          case g1_19 => (intro w hSw; (try dsimp only at hSw); go_simp; all_goals with_reducible rfl)
          simp only [Act.put]
          refine wpAnyH_ready (rs := [20]) (by kernel_rfl) (by simp) ?_
          refine AllReadyH.cons rfl (fun K hK => ?_) AllReadyH.nil
          go_simp
          refine hK.out _ _ ⟨z0 _, z2 _, z3 _, z4 _⟩ (fun hHeld => ?_)
          clear hK K
          refine wpAnyH_done (by kernel_rfl) ?_ _
          try simp only [Act.put, List.setIfInBounds_toArray, List.set_cons_zero, List.set_cons_succ]
          rw [List.length_append] at hE
          simp only [List.length_cons, List.length_nil, Nat.zero_add] at hE
          generalize w6.setCell ⟨r1, k, none⟩ (.slice a6 (l.length + 1) c6) = w7 at hE ⊢
          clear z0 z2 z3 z4 q0 q1 q2 q3 q4 fR6 hg7 hg6 ht6 hor6 hHeld
          go_wp2_with fail
          refine bodyPost_ret (results_none rfl _ _ _) rfl ⟨⟨_, rfl⟩, ?_⟩
          rw [HMUL.out]
          exact hE
      · have hb : (((td : Int) / 8192) == ((M.now : Int) / 8192)) = false := by rw [beq_eq_false_iff_ne]; omega
        have HC2 : RowKit.Hid ((1 ≤ 2 → ¬ td / 64 = M.now / 64) ∧ (2 ≤ 2 → ¬ td / 8192 = M.now / 8192) ∧ (3 ≤ 2 → ¬ td / 2097152 = M.now / 2097152)) := Lib.hid ⟨fun _ => HC.out.1 (by omega), fun _ => he, by omega⟩
        clear he
        go_upto_region 5 with fail
        go_region
        go_wp2_with fail
        go_roundw
        case rel => exact ⟨2, by omega, rfl, hOr.drew, HC2⟩
        case measure => simp [intOf]
    · -- ring 2
      by_cases he : td / 2097152 = M.now / 2097152
      · have hb : (((td : Int) / 2097152) == ((M.now : Int) / 2097152)) = true := by rw [beq_iff_eq]; omega
        obtain ⟨k, hk⟩ : ∃ k, td / 8192 % 256 = k := ⟨_, rfl⟩
        have hk64 : k < 256 := by omega
        have hm : bits .and .u64 ((td : Int) / 8192) 255 = (k : Int) := by have := Wh.mask (x := td / 8192) 8 (by decide) (by omega); rw [← hk]; simpa using this
        have hqk : q = 192 + k := by rw [← HQ.out]; unfold Wh.place; rw [if_neg (HC.out.1 (by omega)), if_neg (HC.out.2.1 (by omega)), if_pos he, hk]
        go_upto_region 5 with fail
        go_region
        go_upto_region 6 with fail
        go_region
        have hPw := HPr.out.keeps (((Only.refl NoBlock wr).drew).drew)
        have hO4 := (hO3.drew).drew
        have t0 := Wh.cell_same (((Only.refl NoBlock wr).drew).drew) t0
        have t1 := Wh.cell_same (((Only.refl NoBlock wr).drew).drew) t1
        have t2 := Wh.cell_same (((Only.refl NoBlock wr).drew).drew) t2
        have g2 := Wh.cell_same (((Only.refl NoBlock wr).drew).drew) g2
        generalize wr.drew.drew = w3 at hPw hO4 t0 t1 t2 g2 ⊢
        have hV := HV.out.keeps hO4
        obtain ⟨hc, hT⟩ := hV.at_ q hql
        have hloc : Wh.loc p r0 r1 r2 q = ⟨r2, k, none⟩ := by rw [hqk, Wh.loc2 hk64]
        rw [hloc] at hc
        obtain ⟨v, hv⟩ : ∃ v, V q = v := ⟨_, rfl⟩
        obtain ⟨l, hl⟩ : ∃ l, M.L q = l := ⟨_, rfl⟩
        have HE : ∀ {w6 : World} {v' : Value} {o : Obj}, (w3.alloc o).drew.grownBy w6 v.ownBlock → Wh.Tms w6 base v' (l ++ [⟨ti, td, tt⟩]) → (v'.ownBlock = v.ownBlock ∨ v'.ownBlock = some (w3.alloc o).drew.heap.size) → Wh.WheelAt (w6.setCell ⟨r2, k, none⟩ v') base X p r0 r1 r2 (M.upd q (l ++ [⟨ti, td, tt⟩])) ∧ Only (fun k => base ≤ k ∧ ¬ X k) w (w6.setCell ⟨r2, k, none⟩ v') := by
          intro w6 v' o hg ht hor
          have := Wh.put_end hPw hV hql (by rw [hv]; exact hg) ht (by rw [hv]; exact hor)
          rw [hloc] at this
          exact ⟨this.1, hO4.of_no.trans this.2⟩
        have hBne : ¬ (v.ownBlock = some B) := fun e => HOWN.out B (by rw [hv]; exact e) rfl
        rw [hv, hl] at hT
        rw [hv] at hc
        have HLL : RowKit.Hid (l.length < 1000000) := Lib.hid (by rw [← hl]; exact HL.out)
        have HMUL := Lib.hid hl
        obtain ⟨cP, hbP, -⟩ := hPw.bp
        obtain ⟨cR, hbR, -⟩ := hPw.b2
        have aP := hT.apart hbP (by decide)
        have aR := hT.apart hbR (by decide)
        have hbase := Wh.base_le hPw
        have nR := hPw.nes.2.2
        have nB : r2 ≠ B := by have := HRB.out.2.2.1; omega
        have hwf : (⟨ti, td, tt⟩ : Wh.Tm).Wf := ⟨hw1, hw2, hw3⟩
        have fR := hbR.free k
        have lP := hbP.lt
        have lB := World.block_lt_of_cell? w3 _ t0
        have lR := hbR.lt
        clear hv hl hV hPw hqk hk hm hb he
        have i1 : (0 : Int) ≤ (k : Int) := by omega
        have i2 : (k : Int) < 256 := by omega
        have i3 : (k : Int) < ((256 : Nat) : Int) := by omega
        have i4 : (k : Int).toNat = k := by omega
        have hA3 := ((Only.refl NoBlock w3).alloc (Obj.cells #[.int .i64 ti, .int .u64 td, .int .i64 tt] 53)).drew
        have k0 := Wh.cell_same hA3 g2
        have k2 := Wh.cell_same hA3 t0
        have k3 := Wh.cell_same hA3 t1
        have k4 := Wh.cell_same hA3 t2
        have k1 := Wh.cell_same hA3 hc
        go_upto_region 7 with fail
        refine wp_region_held_drew (S := (fun w' => w'.cell? ⟨p, 4, none⟩ = some (.slice (some ⟨r2, 0, none⟩) 256 256) ∧ w'.cell? ⟨B, 0, none⟩ = some (.int .i64 ti) ∧ w'.cell? ⟨B, 1, none⟩ = some (.int .u64 td) ∧ w'.cell? ⟨B, 2, none⟩ = some (.int .i64 tt))) (by kernel_rfl) ?_ (fun hHeld => ?_)
        · exact ⟨g2, t0, t1, t2⟩
        refine Wh.take (i := 0) (d := some 44) (v := ?v2_0) rfl (by rfl) (by kernel_rfl) (by kernel_rfl) (by kernel_rfl) (fun _ _ _ h => h) (Or.inl ⟨by rfl, ?h2_0⟩) (by assumption) ?r2_0
        case h2_0 => (intro w hSw; (try dsimp only at hSw); go_simp; all_goals with_reducible rfl)
        simp only [Act.put, List.setIfInBounds_toArray, List.set_cons_zero, List.set_cons_succ]
        refine Wh.take (i := 1) (d := some 45) (v := ?v2_1) rfl (by rfl) (by kernel_rfl) (by kernel_rfl) (by kernel_rfl) (fun _ _ _ h => h) (Or.inl ⟨by rfl, ?h2_1⟩) (by assumption) ?r2_1
        case h2_1 => (intro w hSw; (try dsimp only at hSw); go_simp; all_goals with_reducible rfl)
        simp only [Act.put, List.setIfInBounds_toArray, List.set_cons_zero, List.set_cons_succ]
        refine Wh.take (i := 2) (d := some 46) (v := ?v2_2) rfl (by rfl) (by kernel_rfl) (by kernel_rfl) (by kernel_rfl) (fun _ _ _ h => h) (Or.inl ⟨by rfl, ?h2_2⟩) (by assumption) ?r2_2
        case h2_2 => (intro w hSw; (try dsimp only at hSw); go_simp; all_goals with_reducible rfl)
        simp only [Act.put, List.setIfInBounds_toArray, List.set_cons_zero, List.set_cons_succ]
        refine Wh.take (i := 3) (d := some 47) (v := ?v2_3) rfl (by rfl) (by kernel_rfl) (by kernel_rfl) (by kernel_rfl) (fun _ _ _ h => h) (Or.inl ⟨by rfl, ?h2_3⟩) (by assumption) ?r2_3
        case h2_3 => (intro w hSw; (try dsimp only at hSw); go_simp; all_goals with_reducible rfl)
        simp only [Act.put, List.setIfInBounds_toArray, List.set_cons_zero, List.set_cons_succ]
        refine Wh.take (i := 4) (d := some 48) (v := ?v2_4) rfl (by rfl) (by kernel_rfl) (by kernel_rfl) (by kernel_rfl) (fun _ _ _ h => h) (Or.inl ⟨by rfl, ?h2_4⟩) (by assumption) ?r2_4
        case h2_4 => (intro w hSw; (try dsimp only at hSw); go_simp; all_goals with_reducible rfl)
        simp only [Act.put, List.setIfInBounds_toArray, List.set_cons_zero, List.set_cons_succ]
        refine Wh.take (i := 5) (d := some 49) (v := ?v2_5) rfl (by rfl) (by kernel_rfl) (by kernel_rfl) (by kernel_rfl) (fun _ _ _ h => h) (Or.inl ⟨by rfl, ?h2_5⟩) (by assumption) ?r2_5
        case h2_5 => (intro w hSw; (try dsimp only at hSw); go_simp; all_goals with_reducible rfl)
        simp only [Act.put, List.setIfInBounds_toArray, List.set_cons_zero, List.set_cons_succ]
        refine Wh.take (i := 6) (d := some 50) (v := ?v2_6) rfl (by rfl) (by kernel_rfl) (by kernel_rfl) (by kernel_rfl) (fun _ _ _ h => h) (Or.inl ⟨by rfl, ?h2_6⟩) (by assumption) ?r2_6
        case h2_6 => (intro w hSw; (try dsimp only at hSw); go_simp; all_goals with_reducible rfl)
        simp only [Act.put, List.setIfInBounds_toArray, List.set_cons_zero, List.set_cons_succ]
        refine Wh.take (i := 7) (d := some 51) (v := ?v2_7) rfl (by rfl) (by kernel_rfl) (by kernel_rfl) (by kernel_rfl) (fun _ _ _ h => h) (Or.inl ⟨by rfl, ?h2_7⟩) (by assumption) ?r2_7
        case h2_7 => (intro w hSw; (try dsimp only at hSw); go_simp; all_goals with_reducible rfl)
        simp only [Act.put, List.setIfInBounds_toArray, List.set_cons_zero, List.set_cons_succ]
        refine Wh.take (i := 8) (d := some 52) (v := ?v2_8) rfl (by rfl) (by kernel_rfl) (by kernel_rfl) (by kernel_rfl) (fun _ _ _ h => h) (Or.inl ⟨by rfl, ?h2_8⟩) (by assumption) ?r2_8
        case h2_8 => (intro w hSw; (try dsimp only at hSw); go_simp; all_goals with_reducible rfl)
        simp only [Act.put, List.setIfInBounds_toArray, List.set_cons_zero, List.set_cons_succ]
        refine Wh.take (i := 9) (d := some 53) (v := ?v2_9) rfl (by rfl) (by kernel_rfl) (by kernel_rfl) (by kernel_rfl) (fun _ _ _ h => h) (Or.inl ⟨by rfl, ?h2_9⟩) (by assumption) ?r2_9
        case h2_9 => (intro w hSw; (try dsimp only at hSw); go_simp; all_goals with_reducible rfl)
        simp only [Act.put, List.setIfInBounds_toArray, List.set_cons_zero, List.set_cons_succ]
        refine Wh.take (i := 10) (d := some 54) (v := ?v2_10) rfl (by rfl) (by kernel_rfl) (by kernel_rfl) (by kernel_rfl) (fun _ _ _ h => h) (Or.inl ⟨by rfl, ?h2_10⟩) (by assumption) ?r2_10
        case h2_10 => (intro w hSw; (try dsimp only at hSw); go_simp; all_goals with_reducible rfl)
        simp only [Act.put, List.setIfInBounds_toArray, List.set_cons_zero, List.set_cons_succ]
        refine Wh.take (i := 11) (d := some 55) (v := ?v2_11) rfl (by rfl) (by kernel_rfl) (by kernel_rfl) (by kernel_rfl) (fun _ _ _ h => h) (Or.inl ⟨by rfl, ?h2_11⟩) (by assumption) ?r2_11
        case h2_11 => (intro w hSw; (try dsimp only at hSw); go_simp; all_goals with_reducible rfl)
        simp only [Act.put, List.setIfInBounds_toArray, List.set_cons_zero, List.set_cons_succ]
        refine Wh.take (i := 12) (d := some 56) (v := ?v2_12) rfl (by rfl) (by kernel_rfl) (by kernel_rfl) (by kernel_rfl) (fun _ _ _ h => h) (Or.inl ⟨by rfl, ?h2_12⟩) (by assumption) ?r2_12
        case h2_12 => (intro w hSw; (try dsimp only at hSw); go_simp; all_goals with_reducible rfl)
        simp only [Act.put, List.setIfInBounds_toArray, List.set_cons_zero, List.set_cons_succ]
        refine Wh.take (i := 13) (d := some 57) (v := ?v2_13) rfl (by rfl) (by kernel_rfl) (by kernel_rfl) (by kernel_rfl) (fun _ _ _ h => h) (Or.inl ⟨by rfl, ?h2_13⟩) (by assumption) ?r2_13
        case h2_13 => (intro w hSw; (try dsimp only at hSw); go_simp; all_goals with_reducible rfl)
        simp only [Act.put, List.setIfInBounds_toArray, List.set_cons_zero, List.set_cons_succ]
        refine Wh.take (i := 14) (d := some 58) (v := ?v2_14) rfl (by rfl) (by kernel_rfl) (by kernel_rfl) (by kernel_rfl) (fun _ _ _ h => h) (Or.inl ⟨by rfl, ?h2_14⟩) (by assumption) ?r2_14
        case h2_14 => (intro w hSw; (try dsimp only at hSw); go_simp; all_goals with_reducible rfl)
        simp only [Act.put, List.setIfInBounds_toArray, List.set_cons_zero, List.set_cons_succ]
        refine Wh.take (i := 16) (d := some 60) (v := ?v2_16) rfl (by rfl) (by kernel_rfl) (by kernel_rfl) (by kernel_rfl) (fun _ _ _ h => h) (Or.inl ⟨by rfl, ?h2_16⟩) (by assumption) ?r2_16
        case h2_16 => (intro w hSw; (try dsimp only at hSw); go_simp; all_goals with_reducible rfl)
        simp only [Act.put, List.setIfInBounds_toArray, List.set_cons_zero, List.set_cons_succ]
        refine wpAnyH_ready (rs := [15, 17]) (by kernel_rfl) (by simp) ?_
        refine AllReadyH.cons rfl (fun K hK => ?_) (AllReadyH.cons rfl (fun K hK => ?_) AllReadyH.nil)
        · go_simp
          refine hK.out _ _ ⟨g2, t0, t1, t2⟩ (fun hHeld => ?_)
          clear hK K
          refine wpAnyH_ready (rs := [17]) (by kernel_rfl) (by simp) ?_
          refine AllReadyH.cons rfl (fun K hK => ?_) AllReadyH.nil
          go_simp
          refine hK.out _ _ ⟨k0, k2, k3, k4⟩ (fun hHeld => ?_)
          clear hK K
          refine wpAnyH_ready (rs := [18]) (by kernel_rfl) (by simp) ?_
          refine AllReadyH.cons rfl (fun K hK => ?_) AllReadyH.nil
          refine Wh.step_append_tm _ (by rfl) _ _ (by rfl) base v l ⟨ti, td, tt⟩ hwf w3.heap.size 1 (by rfl) (hT.keeps (((Only.refl NoBlock _).alloc _).drew) (fun _ _ h => h)) (by rfl) (Wh.tm_made _ _ _ _ _ (by rfl)) HLL.out (by simp; omega) ?_
          intro v6 w6 ht6 hg6 hor6
          obtain ⟨a6, c6, rfl⟩ := ht6.shape
          have hE := HE hg6 ht6 hor6
          have hg7 := Wh.grown_pre (((Only.refl NoBlock w3).alloc _).drew) hg6
          have q0 : w6.cell? ⟨p, 4, none⟩ = some (.slice (some ⟨r2, 0, none⟩) 256 256) := (World.cell?_of_block (hg7.block p lP (fun e => aP e.symm))).trans g2
          have q1 : w6.cell? ⟨r2, k, none⟩ = some v := (World.cell?_of_block (hg7.block r2 lR (fun e => aR e.symm))).trans hc
          have q2 : w6.cell? ⟨B, 0, none⟩ = some (.int .i64 ti) := (World.cell?_of_block (hg7.block B lB (fun e => hBne e.symm))).trans t0
          have q3 : w6.cell? ⟨B, 1, none⟩ = some (.int .u64 td) := (World.cell?_of_block (hg7.block B lB (fun e => hBne e.symm))).trans t1
          have q4 : w6.cell? ⟨B, 2, none⟩ = some (.int .i64 tt) := (World.cell?_of_block (hg7.block B lB (fun e => hBne e.symm))).trans t2
          have fR6 : w6.frozen? ⟨r2, k, none⟩ = false := (World.frozen?_of_block (hg7.block r2 lR (fun e => aR e.symm))).trans fR
          have z0 : ∀ u, (w6.setCell ⟨r2, k, none⟩ u).cell? ⟨p, 4, none⟩ = some (.slice (some ⟨r2, 0, none⟩) 256 256) := fun u => (World.cell?_setCell_far w6 _ _ u (fun e => nR e.symm)).trans q0
          have z2 : ∀ u, (w6.setCell ⟨r2, k, none⟩ u).cell? ⟨B, 0, none⟩ = some (.int .i64 ti) := fun u => (World.cell?_setCell_far w6 _ _ u (fun e => nB e)).trans q2
          have z3 : ∀ u, (w6.setCell ⟨r2, k, none⟩ u).cell? ⟨B, 1, none⟩ = some (.int .u64 td) := fun u => (World.cell?_setCell_far w6 _ _ u (fun e => nB e)).trans q3
          have z4 : ∀ u, (w6.setCell ⟨r2, k, none⟩ u).cell? ⟨B, 2, none⟩ = some (.int .i64 tt) := fun u => (World.cell?_setCell_far w6 _ _ u (fun e => nB e)).trans q4
          refine hK.out _ _ ⟨q0, q2, q3, q4⟩ (fun hHeld => ?_)
          clear hK K
          try simp only [Act.put, List.setIfInBounds_toArray]
          refine Wh.take (i := 19) (d := some 63) (v := ?v2_19) rfl (by rfl) (by kernel_rfl) (by kernel_rfl) (by kernel_rfl) (fun _ _ _ h => h) (Or.inl ⟨by rfl, ?h2_19⟩) (by assumption) ?r2_19
          case h2_19 => (intro w hSw; (try dsimp only at hSw); go_simp; all_goals with_reducible rfl)
          simp only [Act.put]
          refine wpAnyH_ready (rs := [20]) (by kernel_rfl) (by simp) ?_
          refine AllReadyH.cons rfl (fun K hK => ?_) AllReadyH.nil
          go_simp
          refine hK.out _ _ ⟨z0 _, z2 _, z3 _, z4 _⟩ (fun hHeld => ?_)
          clear hK K
          refine wpAnyH_done (by kernel_rfl) ?_ _
          try simp only [Act.put, List.setIfInBounds_toArray, List.set_cons_zero, List.set_cons_succ]
          rw [List.length_append] at hE
          simp only [List.length_cons, List.length_nil, Nat.zero_add] at hE
          generalize w6.setCell ⟨r2, k, none⟩ (.slice a6 (l.length + 1) c6) = w7 at hE ⊢
          clear z0 z2 z3 z4 q0 q1 q2 q3 q4 fR6 hg7 hg6 ht6 hor6 hHeld
          go_wp2_with fail
          refine bodyPost_ret (results_none rfl _ _ _) rfl ⟨⟨_, rfl⟩, ?_⟩
          rw [HMUL.out]
          exact hE
        · go_simp
          refine hK.out _ _ ⟨k0, k2, k3, k4⟩ (fun hHeld => ?_)
          clear hK K
          refine wpAnyH_ready (rs := [15]) (by kernel_rfl) (by simp) ?_
          refine AllReadyH.cons rfl (fun K hK => ?_) AllReadyH.nil
          go_simp
          refine hK.out _ _ ⟨k0, k2, k3, k4⟩ (fun hHeld => ?_)
          clear hK K
          refine wpAnyH_ready (rs := [18]) (by kernel_rfl) (by simp) ?_
          refine AllReadyH.cons rfl (fun K hK => ?_) AllReadyH.nil
          refine Wh.step_append_tm _ (by rfl) _ _ (by rfl) base v l ⟨ti, td, tt⟩ hwf w3.heap.size 1 (by rfl) (hT.keeps (((Only.refl NoBlock _).alloc _).drew) (fun _ _ h => h)) (by rfl) (Wh.tm_made _ _ _ _ _ (by rfl)) HLL.out (by simp; omega) ?_
          intro v6 w6 ht6 hg6 hor6
          obtain ⟨a6, c6, rfl⟩ := ht6.shape
          have hE := HE hg6 ht6 hor6
          have hg7 := Wh.grown_pre (((Only.refl NoBlock w3).alloc _).drew) hg6
          have q0 : w6.cell? ⟨p, 4, none⟩ = some (.slice (some ⟨r2, 0, none⟩) 256 256) := (World.cell?_of_block (hg7.block p lP (fun e => aP e.symm))).trans g2
          have q1 : w6.cell? ⟨r2, k, none⟩ = some v := (World.cell?_of_block (hg7.block r2 lR (fun e => aR e.symm))).trans hc
          have q2 : w6.cell? ⟨B, 0, none⟩ = some (.int .i64 ti) := (World.cell?_of_block (hg7.block B lB (fun e => hBne e.symm))).trans t0
          have q3 : w6.cell? ⟨B, 1, none⟩ = some (.int .u64 td) := (World.cell?_of_block (hg7.block B lB (fun e => hBne e.symm))).trans t1
          have q4 : w6.cell? ⟨B, 2, none⟩ = some (.int .i64 tt) := (World.cell?_of_block (hg7.block B lB (fun e => hBne e.symm))).trans t2
          have fR6 : w6.frozen? ⟨r2, k, none⟩ = false := (World.frozen?_of_block (hg7.block r2 lR (fun e => aR e.symm))).trans fR
          have z0 : ∀ u, (w6.setCell ⟨r2, k, none⟩ u).cell? ⟨p, 4, none⟩ = some (.slice (some ⟨r2, 0, none⟩) 256 256) := fun u => (World.cell?_setCell_far w6 _ _ u (fun e => nR e.symm)).trans q0
          have z2 : ∀ u, (w6.setCell ⟨r2, k, none⟩ u).cell? ⟨B, 0, none⟩ = some (.int .i64 ti) := fun u => (World.cell?_setCell_far w6 _ _ u (fun e => nB e)).trans q2
          have z3 : ∀ u, (w6.setCell ⟨r2, k, none⟩ u).cell? ⟨B, 1, none⟩ = some (.int .u64 td) := fun u => (World.cell?_setCell_far w6 _ _ u (fun e => nB e)).trans q3
          have z4 : ∀ u, (w6.setCell ⟨r2, k, none⟩ u).cell? ⟨B, 2, none⟩ = some (.int .i64 tt) := fun u => (World.cell?_setCell_far w6 _ _ u (fun e => nB e)).trans q4
          refine hK.out _ _ ⟨q0, q2, q3, q4⟩ (fun hHeld => ?_)
          clear hK K
          try simp only [Act.put, List.setIfInBounds_toArray]
          refine Wh.take (i := 19) (d := some 63) (v := ?w2_19) rfl (by rfl) (by kernel_rfl) (by kernel_rfl) (by kernel_rfl) (fun _ _ _ h => h) (Or.inl ⟨by rfl, ?g2_19⟩) (by assumption) ?s2_19
          case g2_19 => (intro w hSw; (try dsimp only at hSw); go_simp; all_goals with_reducible rfl)
          simp only [Act.put]
          refine wpAnyH_ready (rs := [20]) (by kernel_rfl) (by simp) ?_
          refine AllReadyH.cons rfl (fun K hK => ?_) AllReadyH.nil
          go_simp
          refine hK.out _ _ ⟨z0 _, z2 _, z3 _, z4 _⟩ (fun hHeld => ?_)
          clear hK K
          refine wpAnyH_done (by kernel_rfl) ?_ _
          try simp only [Act.put, List.setIfInBounds_toArray, List.set_cons_zero, List.set_cons_succ]
          rw [List.length_append] at hE
          simp only [List.length_cons, List.length_nil, Nat.zero_add] at hE
          generalize w6.setCell ⟨r2, k, none⟩ (.slice a6 (l.length + 1) c6) = w7 at hE ⊢
          clear z0 z2 z3 z4 q0 q1 q2 q3 q4 fR6 hg7 hg6 ht6 hor6 hHeld
          go_wp2_with fail
          refine bodyPost_ret (results_none rfl _ _ _) rfl ⟨⟨_, rfl⟩, ?_⟩
          rw [HMUL.out]
          exact hE
      · have hb : (((td : Int) / 2097152) == ((M.now : Int) / 2097152)) = false := by rw [beq_eq_false_iff_ne]; omega
        have HC2 : RowKit.Hid ((1 ≤ 3 → ¬ td / 64 = M.now / 64) ∧ (2 ≤ 3 → ¬ td / 8192 = M.now / 8192) ∧ (3 ≤ 3 → ¬ td / 2097152 = M.now / 2097152)) := Lib.hid ⟨fun _ => HC.out.1 (by omega), fun _ => HC.out.2.1 (by omega), fun _ => he⟩
        clear he
        go_upto_region 5 with fail
        go_region
        go_wp2_with fail
        go_roundw
        case rel => exact ⟨3, by omega, rfl, hOr.drew, HC2⟩
        case measure => simp [intOf]
    · -- late
      have hqk : q = 448 := by rw [← HQ.out]; unfold Wh.place; rw [if_neg (HC.out.1 (by omega)), if_neg (HC.out.2.1 (by omega)), if_neg (HC.out.2.2 (by omega))]
      have hPw := HPr.out
      have hV := HV.out.keeps hO3
      obtain ⟨hc, hT⟩ := hV.at_ q hql
      have hloc : Wh.loc p r0 r1 r2 q = ⟨p, 5, none⟩ := by rw [hqk]; rfl
      rw [hloc] at hc
      obtain ⟨v, hv⟩ : ∃ v, V q = v := ⟨_, rfl⟩
      obtain ⟨l, hl⟩ : ∃ l, M.L q = l := ⟨_, rfl⟩
      have HE : ∀ {w6 : World} {v' : Value} {o : Obj}, (wr.alloc o).drew.grownBy w6 v.ownBlock → Wh.Tms w6 base v' (l ++ [⟨ti, td, tt⟩]) → (v'.ownBlock = v.ownBlock ∨ v'.ownBlock = some (wr.alloc o).drew.heap.size) → Wh.WheelAt (w6.setCell ⟨p, 5, none⟩ v') base X p r0 r1 r2 (M.upd q (l ++ [⟨ti, td, tt⟩])) ∧ Only (fun k => base ≤ k ∧ ¬ X k) w (w6.setCell ⟨p, 5, none⟩ v') := by
        intro w6 v' o hg ht hor
        have := Wh.put_end hPw hV hql (by rw [hv]; exact hg) ht (by rw [hv]; exact hor)
        rw [hloc] at this
        exact ⟨this.1, hO3.of_no.trans this.2⟩
      have hBne : ¬ (v.ownBlock = some B) := fun e => HOWN.out B (by rw [hv]; exact e) rfl
      rw [hv, hl] at hT
      rw [hv] at hc
      have HLL : RowKit.Hid (l.length < 1000000) := Lib.hid (by rw [← hl]; exact HL.out)
      have HMUL := Lib.hid hl
      obtain ⟨cP, hbP, -⟩ := hPw.bp
      have aP := hT.apart hbP (by decide)
      have hbase := Wh.base_le hPw
      have nB : p ≠ B := by have := HRB.out.2.2.2; omega
      have hwf : (⟨ti, td, tt⟩ : Wh.Tm).Wf := ⟨hw1, hw2, hw3⟩
      have fR := hbP.free 5
      have fR : wr.frozen? ⟨p, 5, none⟩ = false := fR
      have lP := hbP.lt
      have lB := World.block_lt_of_cell? wr _ t0
      clear hv hl hV hPw hqk
      have hA3 := ((Only.refl NoBlock wr).alloc (Obj.cells #[.int .i64 ti, .int .u64 td, .int .i64 tt] 53)).drew
      have k1 := Wh.cell_same hA3 hc
      have k2 := Wh.cell_same hA3 t0
      have k3 := Wh.cell_same hA3 t1
      have k4 := Wh.cell_same hA3 t2
      clear s0 s1 s2 s3 g0 g1 g2 p0
      go_upto_region 9 with fail
      refine wp_region_held_drew (S := (fun w' => w'.cell? ⟨B, 0, none⟩ = some (.int .i64 ti) ∧ w'.cell? ⟨B, 1, none⟩ = some (.int .u64 td) ∧ w'.cell? ⟨B, 2, none⟩ = some (.int .i64 tt))) (by kernel_rfl) ?_ (fun hHeld => ?_)
      · exact ⟨t0, t1, t2⟩
      refine Wh.take (i := 0) (d := some 65) (v := ?v3_0) rfl (by rfl) (by kernel_rfl) (by kernel_rfl) (by kernel_rfl) (fun _ _ _ h => h) (Or.inl ⟨by rfl, ?h3_0⟩) (by assumption) ?r3_0
      case h3_0 => (intro w hSw; (try dsimp only at hSw); go_simp; all_goals with_reducible rfl)
      simp only [Act.put, List.setIfInBounds_toArray, List.set_cons_zero, List.set_cons_succ]
      refine Wh.take (i := 1) (d := some 66) (v := ?v3_1) rfl (by rfl) (by kernel_rfl) (by kernel_rfl) (by kernel_rfl) (fun _ _ _ h => h) (Or.inl ⟨by rfl, ?h3_1⟩) (by assumption) ?r3_1
      case h3_1 => (intro w hSw; (try dsimp only at hSw); go_simp; all_goals with_reducible rfl)
      simp only [Act.put, List.setIfInBounds_toArray, List.set_cons_zero, List.set_cons_succ]
      refine Wh.take (i := 2) (d := some 67) (v := ?v3_2) rfl (by rfl) (by kernel_rfl) (by kernel_rfl) (by kernel_rfl) (fun _ _ _ h => h) (Or.inl ⟨by rfl, ?h3_2⟩) (by assumption) ?r3_2
      case h3_2 => (intro w hSw; (try dsimp only at hSw); go_simp; all_goals with_reducible rfl)
      simp only [Act.put, List.setIfInBounds_toArray, List.set_cons_zero, List.set_cons_succ]
      refine Wh.take (i := 3) (d := some 68) (v := ?v3_3) rfl (by rfl) (by kernel_rfl) (by kernel_rfl) (by kernel_rfl) (fun _ _ _ h => h) (Or.inl ⟨by rfl, ?h3_3⟩) (by assumption) ?r3_3
      case h3_3 => (intro w hSw; (try dsimp only at hSw); go_simp; all_goals with_reducible rfl)
      simp only [Act.put, List.setIfInBounds_toArray, List.set_cons_zero, List.set_cons_succ]
      refine Wh.take (i := 5) (d := some 70) (v := ?v3_5) rfl (by rfl) (by kernel_rfl) (by kernel_rfl) (by kernel_rfl) (fun _ _ _ h => h) (Or.inl ⟨by rfl, ?h3_5⟩) (by assumption) ?r3_5
      case h3_5 => (intro w hSw; (try dsimp only at hSw); go_simp; all_goals with_reducible rfl)
      simp only [Act.put, List.setIfInBounds_toArray, List.set_cons_zero, List.set_cons_succ]
      refine wpAnyH_ready (rs := [4, 6]) (by kernel_rfl) (by simp) ?_
      refine AllReadyH.cons rfl (fun K hK => ?_) (AllReadyH.cons rfl (fun K hK => ?_) AllReadyH.nil)
      · go_simp
        refine hK.out _ _ ⟨t0, t1, t2⟩ (fun hHeld => ?_)
        clear hK K
        refine wpAnyH_ready (rs := [6]) (by kernel_rfl) (by simp) ?_
        refine AllReadyH.cons rfl (fun K hK => ?_) AllReadyH.nil
        go_simp
        refine hK.out _ _ ⟨k2, k3, k4⟩ (fun hHeld => ?_)
        clear hK K
        refine wpAnyH_ready (rs := [7]) (by kernel_rfl) (by simp) ?_
        refine AllReadyH.cons rfl (fun K hK => ?_) AllReadyH.nil
        refine Wh.step_append_tm _ (by rfl) _ _ (by rfl) base v l ⟨ti, td, tt⟩ hwf wr.heap.size 1 (by rfl) (hT.keeps (((Only.refl NoBlock _).alloc _).drew) (fun _ _ h => h)) (by rfl) (Wh.tm_made _ _ _ _ _ (by rfl)) HLL.out (by simp; omega) ?_
        intro v6 w6 ht6 hg6 hor6
        obtain ⟨a6, c6, rfl⟩ := ht6.shape
        have hE := HE hg6 ht6 hor6
        have hg7 := Wh.grown_pre (((Only.refl NoBlock wr).alloc _).drew) hg6
        have q1 : w6.cell? ⟨p, 5, none⟩ = some v := (World.cell?_of_block (hg7.block p lP (fun e => aP e.symm))).trans hc
        have q2 : w6.cell? ⟨B, 0, none⟩ = some (.int .i64 ti) := (World.cell?_of_block (hg7.block B lB (fun e => hBne e.symm))).trans t0
        have q3 : w6.cell? ⟨B, 1, none⟩ = some (.int .u64 td) := (World.cell?_of_block (hg7.block B lB (fun e => hBne e.symm))).trans t1
        have q4 : w6.cell? ⟨B, 2, none⟩ = some (.int .i64 tt) := (World.cell?_of_block (hg7.block B lB (fun e => hBne e.symm))).trans t2
        have fR6 : w6.frozen? ⟨p, 5, none⟩ = false := (World.frozen?_of_block (hg7.block p lP (fun e => aP e.symm))).trans fR
        have z2 : ∀ u, (w6.setCell ⟨p, 5, none⟩ u).cell? ⟨B, 0, none⟩ = some (.int .i64 ti) := fun u => (World.cell?_setCell_far w6 _ _ u (fun e => nB e)).trans q2
        have z3 : ∀ u, (w6.setCell ⟨p, 5, none⟩ u).cell? ⟨B, 1, none⟩ = some (.int .u64 td) := fun u => (World.cell?_setCell_far w6 _ _ u (fun e => nB e)).trans q3
        have z4 : ∀ u, (w6.setCell ⟨p, 5, none⟩ u).cell? ⟨B, 2, none⟩ = some (.int .i64 tt) := fun u => (World.cell?_setCell_far w6 _ _ u (fun e => nB e)).trans q4
        refine hK.out _ _ ⟨q2, q3, q4⟩ (fun hHeld => ?_)
        clear hK K
        try simp only [Act.put, List.setIfInBounds_toArray]
        refine Wh.take (i := 8) (d := some 73) (v := ?v3a_8) rfl (by rfl) (by kernel_rfl) (by kernel_rfl) (by kernel_rfl) (fun _ _ _ h => h) (Or.inl ⟨by rfl, ?h3a_8⟩) (by assumption) ?r3a_8
        case h3a_8 => (intro w hSw; (try dsimp only at hSw); go_simp; all_goals with_reducible rfl)
        simp only [Act.put]
        refine Wh.take (i := 9) (d := some 74) (v := ?v3a_9) rfl (by rfl) (by kernel_rfl) (by kernel_rfl) (by kernel_rfl) (fun _ _ _ h => h) (Or.inl ⟨by rfl, ?h3a_9⟩) (by assumption) ?r3a_9
        case h3a_9 => (intro w hSw; (try dsimp only at hSw); go_simp; all_goals with_reducible rfl)
        simp only [Act.put]
        refine wpAnyH_ready (rs := [10]) (by kernel_rfl) (by simp) ?_
        refine AllReadyH.cons rfl (fun K hK => ?_) AllReadyH.nil
        go_simp
        refine hK.out _ _ ⟨z2 _, z3 _, z4 _⟩ (fun hHeld => ?_)
        clear hK K
        refine wpAnyH_done (by kernel_rfl) ?_ _
        try simp only [Act.put, List.setIfInBounds_toArray, List.set_cons_zero, List.set_cons_succ]
        rw [List.length_append] at hE
        simp only [List.length_cons, List.length_nil, Nat.zero_add] at hE
        generalize w6.setCell ⟨p, 5, none⟩ (.slice a6 (l.length + 1) c6) = w7 at hE ⊢
        clear z2 z3 z4 q1 q2 q3 q4 fR6 hg7 hg6 ht6 hor6 hHeld
        go_wp2_with fail
        first
          | (go_end0; exact ⟨⟨_, rfl⟩, by rw [HMUL.out]; exact hE⟩)
          | trace_state
      · go_simp
        refine hK.out _ _ ⟨k2, k3, k4⟩ (fun hHeld => ?_)
        clear hK K
        refine wpAnyH_ready (rs := [4]) (by kernel_rfl) (by simp) ?_
        refine AllReadyH.cons rfl (fun K hK => ?_) AllReadyH.nil
        go_simp
        refine hK.out _ _ ⟨k2, k3, k4⟩ (fun hHeld => ?_)
        clear hK K
        refine wpAnyH_ready (rs := [7]) (by kernel_rfl) (by simp) ?_
        refine AllReadyH.cons rfl (fun K hK => ?_) AllReadyH.nil
        refine Wh.step_append_tm _ (by rfl) _ _ (by rfl) base v l ⟨ti, td, tt⟩ hwf wr.heap.size 1 (by rfl) (hT.keeps (((Only.refl NoBlock _).alloc _).drew) (fun _ _ h => h)) (by rfl) (Wh.tm_made _ _ _ _ _ (by rfl)) HLL.out (by simp; omega) ?_
        intro v6 w6 ht6 hg6 hor6
        obtain ⟨a6, c6, rfl⟩ := ht6.shape
        have hE := HE hg6 ht6 hor6
        have hg7 := Wh.grown_pre (((Only.refl NoBlock wr).alloc _).drew) hg6
        have q1 : w6.cell? ⟨p, 5, none⟩ = some v := (World.cell?_of_block (hg7.block p lP (fun e => aP e.symm))).trans hc
        have q2 : w6.cell? ⟨B, 0, none⟩ = some (.int .i64 ti) := (World.cell?_of_block (hg7.block B lB (fun e => hBne e.symm))).trans t0
        have q3 : w6.cell? ⟨B, 1, none⟩ = some (.int .u64 td) := (World.cell?_of_block (hg7.block B lB (fun e => hBne e.symm))).trans t1
        have q4 : w6.cell? ⟨B, 2, none⟩ = some (.int .i64 tt) := (World.cell?_of_block (hg7.block B lB (fun e => hBne e.symm))).trans t2
        have fR6 : w6.frozen? ⟨p, 5, none⟩ = false := (World.frozen?_of_block (hg7.block p lP (fun e => aP e.symm))).trans fR
        have z2 : ∀ u, (w6.setCell ⟨p, 5, none⟩ u).cell? ⟨B, 0, none⟩ = some (.int .i64 ti) := fun u => (World.cell?_setCell_far w6 _ _ u (fun e => nB e)).trans q2
        have z3 : ∀ u, (w6.setCell ⟨p, 5, none⟩ u).cell? ⟨B, 1, none⟩ = some (.int .u64 td) := fun u => (World.cell?_setCell_far w6 _ _ u (fun e => nB e)).trans q3
        have z4 : ∀ u, (w6.setCell ⟨p, 5, none⟩ u).cell? ⟨B, 2, none⟩ = some (.int .i64 tt) := fun u => (World.cell?_setCell_far w6 _ _ u (fun e => nB e)).trans q4
        refine hK.out _ _ ⟨q2, q3, q4⟩ (fun hHeld => ?_)
        clear hK K
        try simp only [Act.put, List.setIfInBounds_toArray]
        refine Wh.take (i := 8) (d := some 73) (v := ?v3b_8) rfl (by rfl) (by kernel_rfl) (by kernel_rfl) (by kernel_rfl) (fun _ _ _ h => h) (Or.inl ⟨by rfl, ?h3b_8⟩) (by assumption) ?r3b_8
        case h3b_8 => (intro w hSw; (try dsimp only at hSw); go_simp; all_goals with_reducible rfl)
        simp only [Act.put]
        refine Wh.take (i := 9) (d := some 74) (v := ?v3b_9) rfl (by rfl) (by kernel_rfl) (by kernel_rfl) (by kernel_rfl) (fun _ _ _ h => h) (Or.inl ⟨by rfl, ?h3b_9⟩) (by assumption) ?r3b_9
        case h3b_9 => (intro w hSw; (try dsimp only at hSw); go_simp; all_goals with_reducible rfl)
        simp only [Act.put]
        refine wpAnyH_ready (rs := [10]) (by kernel_rfl) (by simp) ?_
        refine AllReadyH.cons rfl (fun K hK => ?_) AllReadyH.nil
        go_simp
        refine hK.out _ _ ⟨z2 _, z3 _, z4 _⟩ (fun hHeld => ?_)
        clear hK K
        refine wpAnyH_done (by kernel_rfl) ?_ _
        try simp only [Act.put, List.setIfInBounds_toArray, List.set_cons_zero, List.set_cons_succ]
        rw [List.length_append] at hE
        simp only [List.length_cons, List.length_nil, Nat.zero_add] at hE
        generalize w6.setCell ⟨p, 5, none⟩ (.slice a6 (l.length + 1) c6) = w7 at hE ⊢
        clear z2 z3 z4 q1 q2 q3 q4 fR6 hg7 hg6 ht6 hor6 hHeld
        go_wp2_with fail
        first
          | (go_end0; exact ⟨⟨_, rfl⟩, by rw [HMUL.out]; exact hE⟩)
          | trace_state
end Go.Proofs.Ytklpdkojffaiiaa
