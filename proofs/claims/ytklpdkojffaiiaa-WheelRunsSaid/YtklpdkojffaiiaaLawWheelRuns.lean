/- Call by call a wheel answers what the document's list does: the law's walk. -/
import Derived.Test.YtklpdkojffaiiaaWheelR
import Derived.Test.YtklpdkojffaiiaaOpen9
import Derived.Test.YtklpdkojffaiiaaIntsEq
import Derived.Deep.RegionHeld3
namespace Go.Proofs.Ytklpdkojffaiiaa
open Go.RowKit Go.Shelf
set_option maxRecDepth 100000

set_option maxHeartbeats 8000000 in
theorem walk9_runs (w : World) (l : List CallW) (ao : Option Addr) (cap : Nat) (hin : CallsIn9 w ao l) :
    Calls Try.prog 7 #[.slice ao l.length cap] w fun e w' => e = .returned (.bool true) ∧ Only NoBlock w w' := by
  have hll := hin.len
  unfold maxLen at hll
  go_enter Try.func7, Try.ntmps7
  go_wp2_with fail
  refine (begun9_ok w).mono ?_
  rintro e w1 ⟨rfl, o1⟩
  go_wp2_with fail
  refine (new_i w1).mono ?_
  rintro e w2 ⟨p, rfl, h2, o2⟩
  have hB := o1.size
  have hB2 := o2.size
  have hn3 := (Only.refl NoBlock w2).alloc (Obj.cells #[.int .u64 0, .slice none 0 0, .slice none 0 0] 42)
  have br3 := Blk.made w2 #[.int .u64 0, .slice none 0 0, .slice none 0 0] 42
  have o3 := (o1.trans o2).trans hn3
  obtain ⟨B, hBe⟩ : ∃ B, w1.heap.size = B := ⟨_, rfl⟩
  rw [hBe] at h2 hB hB2
  clear o1 o2 hBe
  go_upto_region 4 with fail
  obtain ⟨r, hr⟩ : ∃ r, w2.heap.size = r := ⟨_, rfl⟩
  rw [hr] at br3 hB2 ⊢
  have hI3 := h2.more (Y := fun b => b = r) hn3 (fun b e => by subst e; exact ⟨by omega, by rw [← hr]; simp⟩)
  generalize w2.alloc (Obj.cells #[.int .u64 0, .slice none 0 0, .slice none 0 0] 42) = w3 at hn3 br3 o3 hI3 ⊢
  have hboth : Both9 w3 B (fun b => False ∨ b = r) p r 0 [] 0 := ⟨hI3, ⟨_, _, br3, Rw.Row.nil _ _ _ _, Rw.Row.nil _ _ _ _, .inr rfl, fun b e => by simp [Value.ownBlock] at e, fun b e => by simp [Value.ownBlock] at e⟩, fun b e => by rcases e with e | e; exact e.elim; subst e; exact hB2⟩
  clear hn3 br3 hI3 h2 hr hB2
  go_wp2_with fail
  go_loopw [16, 5] (fun u16 u5 wr => ∃ (i now : Nat) (A : List Wh.Tm) (turn : Int) (X : Nat → Prop), i ≤ l.length ∧ i ≤ 300 ∧ u16 = .int .i64 i ∧ u5 = .int .i64 now ∧ now ≤ 20000 ∧ turn ≤ i ∧ Both9 wr B X p r now A turn ∧ Only NoBlock w wr) (fun u16 _ _ => l.length - (intOf u16).toNat)
  case atStart => exact ⟨0, 0, [], 0, _, by omega, by omega, rfl, rfl, by omega, by omega, hboth, o3⟩
  case round =>
    obtain ⟨i, now, A, turn, X, hi, hi3, rfl, rfl, hn1, ht1, hw, ho⟩ := hrel
    by_cases hlt : i < l.length
    · obtain ⟨b, off, rfl, hc⟩ := (hin.keeps ho).call i hlt
      obtain ⟨c, hcc⟩ : ∃ c, l[i] = c := ⟨_, rfl⟩
      rw [hcc] at hc
      obtain ⟨c0, c1, c2, cid, cn⟩ := hc
      obtain ⟨ck, ci, cz⟩ := c
      simp only at c0 c1 c2 cid cn
      clear hcc
      have hA := (Only.refl NoBlock wr).alloc (Obj.cells #[.int .i64 ck, .int .i64 ci, .int .i64 cz] 37)
      have ct := Blk.made wr #[.int .i64 ck, .int .i64 ci, .int .i64 cz] 37
      have hwA := hw.keeps hA
      have hoA := ho.trans hA
      have hwT : WheelI _ B (fun b => X b ∨ b = wr.heap.size) p A now turn := hw.1.more hA (fun b e => by subst e; exact ⟨Nat.le_refl _, ct.lt⟩)
      by_cases h300 : i = 300
      · have hb3 : ((i : Int) == 300) = true := by rw [beq_iff_eq]; omega
        clear h300
        go_wp2_with fail
        go_ret
        exact ⟨rfl, hoA⟩
      · have hb3 : ((i : Int) == 300) = false := by rw [beq_eq_false_iff_ne]; omega
        have HI : RowKit.Hid (i < 300) := Lib.hid (by omega)
        clear h300
        by_cases hk0 : ck = 0
        · subst hk0
          have hids := hw.1.ids
          have hlen := hw.1.size
          have tc1 : ((wr.alloc (Obj.cells #[.int .i64 0, .int .i64 ci, .int .i64 cz] 37)).drew).cell? ⟨wr.heap.size, 1, none⟩ = some (.int .i64 ci) := by rw [ct.drew.cell]; rfl
          have tc2 : ((wr.alloc (Obj.cells #[.int .i64 0, .int .i64 ci, .int .i64 cz] 37)).drew).cell? ⟨wr.heap.size, 2, none⟩ = some (.int .i64 cz) := by rw [ct.drew.cell]; rfl
          have hTX : ¬ X wr.heap.size := fun h => by have := hw.1.xlt h; omega
          have hwA := hwA.keeps (Only.refl NoBlock _).drew
          have hwT := hwT.keeps (Only.refl NoBlock _).drew
          have hoA := hoA.drew
          obtain ⟨A2, c, tn2, hE⟩ : ∃ A2 c tn2, Wh.setA A now turn ci cz = (A2, c, tn2) := ⟨_, _, _, rfl⟩
          have HT : RowKit.Hid (tn2 ≤ turn + 1) := Lib.hid (by have := Wh.setA_turn A now turn ci cz; rw [hE] at this; exact this)
          go_upto_region 20 with fail
          obtain ⟨T, hT⟩ : ∃ T, wr.heap.size = T := ⟨_, rfl⟩
          rw [hT] at tc1 tc2 hTX hwT ⊢
          clear hT hw ho hA c0 c1 c2 ct
          refine wp_region_held_drew (S := fun w' => w'.cell? ⟨T, 1, none⟩ = some (.int .i64 ci) ∧ w'.cell? ⟨T, 2, none⟩ = some (.int .i64 cz)) (by kernel_rfl) ⟨tc1, tc2⟩ (fun hHeld => ?_)
          generalize (wr.alloc (Obj.cells #[.int .i64 0, .int .i64 ci, .int .i64 cz] 37)).drew = W0 at hHeld hwA hwT hoA ⊢
          refine Wh.take (i := 0) (d := some 47) (v := ?v21) rfl (by rfl) (by kernel_rfl) (by kernel_rfl) (by kernel_rfl) (fun _ _ _ h => h) (Or.inl ⟨by rfl, ?h21⟩) hHeld ?r21
          case h21 => (intro w hSw; (try dsimp only at hSw); go_simp; all_goals (try with_reducible rfl))
          simp only [Act.put, List.setIfInBounds_toArray, List.set_cons_zero, List.set_cons_succ]
          refine Wh.take (i := 1) (d := some 48) (v := ?v22) rfl (by rfl) (by kernel_rfl) (by kernel_rfl) (by kernel_rfl) (fun _ _ _ h => h) (Or.inl ⟨by rfl, ?h22⟩) hHeld ?r22
          case h22 => (intro w hSw; (try dsimp only at hSw); go_simp; all_goals (try with_reducible rfl))
          simp only [Act.put, List.setIfInBounds_toArray, List.set_cons_zero, List.set_cons_succ]
          refine Wh.take (i := 2) (d := some 49) (v := ?v23) rfl (by rfl) (by kernel_rfl) (by kernel_rfl) (by kernel_rfl) (fun _ _ _ h => h) (Or.inl ⟨by rfl, ?h23⟩) hHeld ?r23
          case h23 => (intro w hSw; (try dsimp only at hSw); go_simp; all_goals (try with_reducible rfl))
          simp only [Act.put, List.setIfInBounds_toArray, List.set_cons_zero, List.set_cons_succ]
          refine Wh.take (i := 3) (d := some 50) (v := ?v24) rfl (by rfl) (by kernel_rfl) (by kernel_rfl) (by kernel_rfl) (fun _ _ _ h => h) (Or.inl ⟨by rfl, ?h24⟩) hHeld ?r24
          case h24 => (intro w hSw; (try dsimp only at hSw); go_simp; all_goals (try with_reducible rfl))
          simp only [Act.put, List.setIfInBounds_toArray, List.set_cons_zero, List.set_cons_succ]
          refine Wh.take (i := 4) (d := some 51) (v := ?v25) rfl (by rfl) (by kernel_rfl) (by kernel_rfl) (by kernel_rfl) (fun _ _ _ h => h) (Or.inl ⟨by rfl, ?h25⟩) hHeld ?r25
          case h25 => (intro w hSw; (try dsimp only at hSw); go_simp; all_goals (try with_reducible rfl))
          simp only [Act.put, List.setIfInBounds_toArray, List.set_cons_zero, List.set_cons_succ]
          refine Wh.take (i := 6) (d := some 53) (v := ?v26) rfl (by rfl) (by kernel_rfl) (by kernel_rfl) (by kernel_rfl) (fun _ _ _ h => h) (Or.inl ⟨by rfl, ?h26⟩) hHeld ?r26
          case h26 => (intro w hSw; (try dsimp only at hSw); go_simp; all_goals (try with_reducible rfl))
          simp only [Act.put, List.setIfInBounds_toArray, List.set_cons_zero, List.set_cons_succ]
          refine Wh.take (i := 7) (d := some 54) (v := ?v27) rfl (by rfl) (by kernel_rfl) (by kernel_rfl) (by kernel_rfl) (fun _ _ _ h => h) (Or.inl ⟨by rfl, ?h27⟩) hHeld ?r27
          case h27 => (intro w hSw; (try dsimp only at hSw); go_simp; all_goals (try with_reducible rfl))
          simp only [Act.put, List.setIfInBounds_toArray, List.set_cons_zero, List.set_cons_succ]
          refine Wh.take (i := 8) (d := some 55) (v := ?v28) rfl (by rfl) (by kernel_rfl) (by kernel_rfl) (by kernel_rfl) (fun _ _ _ h => h) (Or.inl ⟨by rfl, ?h28⟩) hHeld ?r28
          case h28 => (intro w hSw; (try dsimp only at hSw); go_simp; all_goals (try with_reducible rfl))
          simp only [Act.put, List.setIfInBounds_toArray, List.set_cons_zero, List.set_cons_succ]
          refine Wh.take (i := 9) (d := some 56) (v := ?v29) rfl (by rfl) (by kernel_rfl) (by kernel_rfl) (by kernel_rfl) (fun _ _ _ h => h) (Or.inl ⟨by rfl, ?h29⟩) hHeld ?r29
          case h29 => (intro w hSw; (try dsimp only at hSw); go_simp; all_goals (try with_reducible rfl))
          simp only [Act.put, List.setIfInBounds_toArray, List.set_cons_zero, List.set_cons_succ]
          refine Wh.take (i := 10) (d := some 57) (v := ?v30) rfl (by rfl) (by kernel_rfl) (by kernel_rfl) (by kernel_rfl) (fun _ _ _ h => h) (Or.inl ⟨by rfl, ?h30⟩) hHeld ?r30
          case h30 => (intro w hSw; (try dsimp only at hSw); go_simp; all_goals (try with_reducible rfl))
          simp only [Act.put, List.setIfInBounds_toArray, List.set_cons_zero, List.set_cons_succ]
          refine wpAnyH_ready (rs := [5]) (by kernel_rfl) (by simp) ?_
          refine AllReadyH.cons rfl (fun K hK => ?_) AllReadyH.nil
          have hq1 := set_i _ B p now (fun b => X b ∨ b = T) A turn hwT ci cz cid (by omega) (by omega)
          rw [hE] at hq1
          simp only at hq1
          go_simp
          refine (hq1).mono ?_
          rintro e w5 ⟨rfl, h5, o5⟩
          have o5x : Only (fun k => B ≤ k ∧ ¬ X k) W0 w5 := o5.mono (fun k e => ⟨e.1, fun h => e.2 (.inl h)⟩)
          have hsw5 : w5.cell? ⟨T, 1, none⟩ = some (.int .i64 ci) ∧ w5.cell? ⟨T, 2, none⟩ = some (.int .i64 cz) := ⟨(World.cell?_of_block (a := ⟨T, 1, none⟩) (o5.block T (World.block_lt_of_cell? _ _ hHeld.1) (fun e => e.2 (.inr rfl)))).trans hHeld.1, (World.cell?_of_block (a := ⟨T, 2, none⟩) (o5.block T (World.block_lt_of_cell? _ _ hHeld.2) (fun e => e.2 (.inr rfl)))).trans hHeld.2⟩
          refine hK.out _ _ hsw5 (fun hHeld => ?_)
          clear hK K
          try simp only [Act.put, List.setIfInBounds_toArray, List.set_cons_zero, List.set_cons_succ]
          clear hq1 hsw5
          refine wpAnyH_ready (rs := [11]) (by kernel_rfl) (by simp) ?_
          refine AllReadyH.cons rfl (fun K hK => ?_) AllReadyH.nil
          have hq2 := rset_at _ X r now A (hwA.first o5x) hids hlen turn ci cz (by omega)
          rw [hE] at hq2
          simp only at hq2
          go_simp
          refine (hq2).mono ?_
          rintro e w6 ⟨rfl, h6, o6⟩
          have hsw6 : w6.cell? ⟨T, 1, none⟩ = some (.int .i64 ci) ∧ w6.cell? ⟨T, 2, none⟩ = some (.int .i64 cz) := ⟨(World.cell?_of_block (a := ⟨T, 1, none⟩) (o6.block T (World.block_lt_of_cell? _ _ hHeld.1) hTX)).trans hHeld.1, (World.cell?_of_block (a := ⟨T, 2, none⟩) (o6.block T (World.block_lt_of_cell? _ _ hHeld.2) hTX)).trans hHeld.2⟩
          refine hK.out _ _ hsw6 (fun hHeld => ?_)
          clear hK K
          try simp only [Act.put, List.setIfInBounds_toArray, List.set_cons_zero, List.set_cons_succ]
          have hw4 : Both9 w6 B (Rw.plus X w5 w6) p r now A2 tn2 := hwA.wr h5 (fun b e => .inl e) o5x h6 o6
          have ho4 := Only.freshB hoA (hwA.only o5x o6) hB
          clear hq2 hsw6 h5 h6 o5 o5x o6 hwA hwT hoA
          refine Wh.take (i := 12) (d := some 59) (v := ?v31) rfl (by rfl) (by kernel_rfl) (by kernel_rfl) (by kernel_rfl) (fun _ _ _ h => h) (Or.inl ⟨by rfl, ?h31⟩) hHeld ?r31
          case h31 => (intro w hSw; (try dsimp only at hSw); go_simp; all_goals (try with_reducible rfl))
          simp only [Act.put, List.setIfInBounds_toArray, List.set_cons_zero, List.set_cons_succ]
          refine wpAnyH_done (by kernel_rfl) ?_ _
          try simp only [Act.put, List.setIfInBounds_toArray, List.set_cons_zero, List.set_cons_succ]
          go_upto_region 25 with fail
          obtain ⟨vi, vd, hbR, hriR, _⟩ := _root_.id hw4.2.1
          obtain ⟨ai, ca, rfl, _⟩ := hriR.shape
          have n0 := hbR.drew.cell 0
          have n1 := hbR.drew.cell 1
          simp at n0 n1
          have hS := hw4.keeps (Only.refl NoBlock _).drew
          have hSo := ho4.drew
          clear hbR hriR hw4 ho4
          refine wp_region_held_drew (S := fun w' => w'.cell? ⟨r, 0, none⟩ = some (.int .u64 now) ∧ w'.cell? ⟨r, 1, none⟩ = some (.slice ai A2.length ca) ∧ Both9 w' B (Rw.plus X w5 w6) p r now A2 tn2 ∧ Only NoBlock w w') (by kernel_rfl) ⟨n0, n1, hS, hSo⟩ (fun hHeld => ?_)
          clear n0 n1 hS hSo
          refine Wh.take (i := 0) (d := some 71) (v := ?v32) rfl (by rfl) (by kernel_rfl) (by kernel_rfl) (by kernel_rfl) (fun _ _ _ h => h) (Or.inl ⟨by rfl, ?h32⟩) hHeld ?r32
          case h32 => (intro w hSw; (try dsimp only at hSw); go_simp; all_goals (try with_reducible rfl))
          simp only [Act.put, List.setIfInBounds_toArray, List.set_cons_zero, List.set_cons_succ]
          refine Wh.take (i := 2) (d := some 73) (v := ?v33) rfl (by rfl) (by kernel_rfl) (by kernel_rfl) (by kernel_rfl) (fun _ _ _ h => h) (Or.inl ⟨by rfl, ?h33⟩) hHeld ?r33
          case h33 => (intro w hSw; (try dsimp only at hSw); go_simp; all_goals (try with_reducible rfl))
          simp only [Act.put, List.setIfInBounds_toArray, List.set_cons_zero, List.set_cons_succ]
          refine Wh.take (i := 3) (d := some 74) (v := ?v34) rfl (by rfl) (by kernel_rfl) (by kernel_rfl) (by kernel_rfl) (fun _ _ _ h => h) (Or.inl ⟨by rfl, ?h34⟩) hHeld ?r34
          case h34 => (intro w hSw; (try dsimp only at hSw); go_simp; all_goals (try with_reducible rfl))
          simp only [Act.put, List.setIfInBounds_toArray, List.set_cons_zero, List.set_cons_succ]
          refine Wh.take (i := 4) (d := some 75) (v := ?v35) rfl (by rfl) (by kernel_rfl) (by kernel_rfl) (by kernel_rfl) (fun _ _ _ h => h) (Or.inl ⟨by rfl, ?h35⟩) hHeld ?r35
          case h35 => (intro w hSw; (try dsimp only at hSw); go_simp; all_goals (try with_reducible rfl))
          simp only [Act.put, List.setIfInBounds_toArray, List.set_cons_zero, List.set_cons_succ]
          refine Wh.take (i := 5) (d := some 76) (v := ?v36) rfl (by rfl) (by kernel_rfl) (by kernel_rfl) (by kernel_rfl) (fun _ _ _ h => h) (Or.inl ⟨by rfl, ?h36⟩) hHeld ?r36
          case h36 => (intro w hSw; (try dsimp only at hSw); go_simp; all_goals (try with_reducible rfl))
          simp only [Act.put, List.setIfInBounds_toArray, List.set_cons_zero, List.set_cons_succ]
          refine wpAnyH_ready (rs := [1]) (by kernel_rfl) (by simp) ?_
          refine AllReadyH.cons rfl (fun K hK => ?_) AllReadyH.nil
          go_simp
          refine (now_held hHeld).mono ?_
          rintro e wa ⟨rfl, k1, k2, k3, k4⟩
          clear hHeld
          refine hK.out _ _ ⟨k1, k2, k3, k4⟩ (fun hHeld => ?_)
          clear hK K
          try simp only [Act.put, List.setIfInBounds_toArray, List.set_cons_zero, List.set_cons_succ]
          clear k1 k2 k3 k4
          refine Wh.take (i := 6) (d := some 77) (v := ?v37) rfl (by rfl) (by kernel_rfl) (by kernel_rfl) (by kernel_rfl) (fun _ _ _ h => h) (Or.inl ⟨by rfl, ?h37⟩) hHeld ?r37
          case h37 => (intro w hSw; (try dsimp only at hSw); go_simp; all_goals (try with_reducible rfl))
          simp only [Act.put, List.setIfInBounds_toArray, List.set_cons_zero, List.set_cons_succ]
          refine Wh.take (i := 7) (d := some 78) (v := ?v38) rfl (by rfl) (by kernel_rfl) (by kernel_rfl) (by kernel_rfl) (fun _ _ _ h => h) (Or.inl ⟨by rfl, ?h38⟩) hHeld ?r38
          case h38 => (intro w hSw; (try dsimp only at hSw); go_simp; all_goals (try with_reducible rfl))
          simp only [Act.put, List.setIfInBounds_toArray, List.set_cons_zero, List.set_cons_succ]
          refine Wh.take (i := 8) (d := some 79) (v := ?v39) rfl (by rfl) (by kernel_rfl) (by kernel_rfl) (by kernel_rfl) (fun _ _ _ h => h) (Or.inl ⟨by rfl, ?h39⟩) hHeld ?r39
          case h39 => (intro w hSw; (try dsimp only at hSw); go_simp; all_goals (try with_reducible rfl))
          simp only [Act.put, List.setIfInBounds_toArray, List.set_cons_zero, List.set_cons_succ]
          refine Wh.take (i := 10) (d := some 81) (v := ?v40) rfl (by rfl) (by kernel_rfl) (by kernel_rfl) (by kernel_rfl) (fun _ _ _ h => h) (Or.inl ⟨by rfl, ?h40⟩) hHeld ?r40
          case h40 => (intro w hSw; (try dsimp only at hSw); go_simp; all_goals (try with_reducible rfl))
          simp only [Act.put, List.setIfInBounds_toArray, List.set_cons_zero, List.set_cons_succ]
          refine Wh.take (i := 11) (d := some 82) (v := ?v41) rfl (by rfl) (by kernel_rfl) (by kernel_rfl) (by kernel_rfl) (fun _ _ _ h => h) (Or.inl ⟨by rfl, ?h41⟩) hHeld ?r41
          case h41 => (intro w hSw; (try dsimp only at hSw); go_simp; all_goals (try with_reducible rfl))
          simp only [Act.put, List.setIfInBounds_toArray, List.set_cons_zero, List.set_cons_succ]
          refine Wh.take (i := 12) (d := some 83) (v := ?v42) rfl (by rfl) (by kernel_rfl) (by kernel_rfl) (by kernel_rfl) (fun _ _ _ h => h) (Or.inl ⟨by rfl, ?h42⟩) hHeld ?r42
          case h42 => (intro w hSw; (try dsimp only at hSw); go_simp; all_goals (try with_reducible rfl))
          simp only [Act.put, List.setIfInBounds_toArray, List.set_cons_zero, List.set_cons_succ]
          refine Wh.take (i := 13) (d := some 84) (v := ?v43) rfl (by rfl) (by kernel_rfl) (by kernel_rfl) (by kernel_rfl) (fun _ _ _ h => h) (Or.inl ⟨by rfl, ?h43⟩) hHeld ?r43
          case h43 => (intro w hSw; (try dsimp only at hSw); go_simp; all_goals (try with_reducible rfl))
          simp only [Act.put, List.setIfInBounds_toArray, List.set_cons_zero, List.set_cons_succ]
          refine Wh.take (i := 14) (d := some 85) (v := ?v44) rfl (by rfl) (by kernel_rfl) (by kernel_rfl) (by kernel_rfl) (fun _ _ _ h => h) (Or.inl ⟨by rfl, ?h44⟩) hHeld ?r44
          case h44 => (intro w hSw; (try dsimp only at hSw); go_simp; all_goals (try with_reducible rfl))
          simp only [Act.put, List.setIfInBounds_toArray, List.set_cons_zero, List.set_cons_succ]
          refine wpAnyH_ready (rs := [9]) (by kernel_rfl) (by simp) ?_
          refine AllReadyH.cons rfl (fun K hK => ?_) AllReadyH.nil
          go_simp
          refine (len_held hHeld).mono ?_
          rintro e wb ⟨rfl, k1, k2, k3, k4⟩
          clear hHeld
          refine hK.out _ _ ⟨k1, k2, k3, k4⟩ (fun hHeld => ?_)
          clear hK K
          try simp only [Act.put, List.setIfInBounds_toArray, List.set_cons_zero, List.set_cons_succ]
          clear k1 k2 k3 k4
          refine Wh.take (i := 15) (d := some 86) (v := ?v45) rfl (by rfl) (by kernel_rfl) (by kernel_rfl) (by kernel_rfl) (fun _ _ _ h => h) (Or.inl ⟨by rfl, ?h45⟩) hHeld ?r45
          case h45 => (intro w hSw; (try dsimp only at hSw); go_simp; all_goals (try with_reducible rfl))
          simp only [Act.put, List.setIfInBounds_toArray, List.set_cons_zero, List.set_cons_succ]
          refine Wh.take (i := 16) (d := some 87) (v := ?v46) rfl (by rfl) (by kernel_rfl) (by kernel_rfl) (by kernel_rfl) (fun _ _ _ h => h) (Or.inl ⟨by rfl, ?h46⟩) hHeld ?r46
          case h46 => (intro w hSw; (try dsimp only at hSw); go_simp; all_goals (try with_reducible rfl))
          simp only [Act.put, List.setIfInBounds_toArray, List.set_cons_zero, List.set_cons_succ]
          refine Wh.take (i := 17) (d := some 88) (v := ?v47) rfl (by rfl) (by kernel_rfl) (by kernel_rfl) (by kernel_rfl) (fun _ _ _ h => h) (Or.inl ⟨by rfl, ?h47⟩) hHeld ?r47
          case h47 => (intro w hSw; (try dsimp only at hSw); go_simp; all_goals (try with_reducible rfl))
          simp only [Act.put, List.setIfInBounds_toArray, List.set_cons_zero, List.set_cons_succ]
          refine Wh.take (i := 18) (d := some 89) (v := ?v48) rfl (by rfl) (by kernel_rfl) (by kernel_rfl) (by kernel_rfl) (fun _ _ _ h => h) (Or.inl ⟨by rfl, ?h48⟩) hHeld ?r48
          case h48 => (intro w hSw; (try dsimp only at hSw); go_simp; all_goals (try with_reducible rfl))
          simp only [Act.put, List.setIfInBounds_toArray, List.set_cons_zero, List.set_cons_succ]
          refine Wh.take (i := 20) (d := some 91) (v := ?v49) rfl (by rfl) (by kernel_rfl) (by kernel_rfl) (by kernel_rfl) (fun _ _ _ h => h) (Or.inl ⟨by rfl, ?h49⟩) hHeld ?r49
          case h49 => (intro w hSw; (try dsimp only at hSw); go_simp; all_goals (try with_reducible rfl))
          simp only [Act.put, List.setIfInBounds_toArray, List.set_cons_zero, List.set_cons_succ]
          refine wpAnyH_ready (rs := [19]) (by kernel_rfl) (by simp) ?_
          refine AllReadyH.cons rfl (fun K hK => ?_) AllReadyH.nil
          go_simp
          refine (due_held hHeld).mono ?_
          rintro e wc ⟨rfl, k1, k2, k3, k4⟩
          clear hHeld
          refine hK.out _ _ ⟨k1, k2, k3, k4⟩ (fun hHeld => ?_)
          clear hK K
          try simp only [Act.put, List.setIfInBounds_toArray, List.set_cons_zero, List.set_cons_succ]
          clear k1 k2 k3 k4
          refine wpAnyH_ready (rs := [21]) (by kernel_rfl) (by simp) ?_
          refine AllReadyH.cons rfl (fun K hK => ?_) AllReadyH.nil
          go_simp
          refine (next_held hHeld).mono ?_
          rintro e wd ⟨rfl, k1, k2, k3, k4⟩
          clear hHeld
          refine hK.out _ _ ⟨k1, k2, k3, k4⟩ (fun hHeld => ?_)
          clear hK K
          try simp only [Act.put, List.setIfInBounds_toArray, List.set_cons_zero, List.set_cons_succ]
          clear k1 k2 k3 k4
          refine Wh.take (i := 22) (d := some 93) (v := ?v50) rfl (by rfl) (by kernel_rfl) (by kernel_rfl) (by kernel_rfl) (fun _ _ _ h => h) (Or.inl ⟨by rfl, ?h50⟩) hHeld ?r50
          case h50 => (intro w hSw; (try dsimp only at hSw); go_simp; all_goals (try with_reducible rfl))
          simp only [Act.put, List.setIfInBounds_toArray, List.set_cons_zero, List.set_cons_succ]
          refine Wh.take (i := 23) (d := some 94) (v := ?v51) rfl (by rfl) (by kernel_rfl) (by kernel_rfl) (by kernel_rfl) (fun _ _ _ h => h) (Or.inl ⟨by rfl, ?h51⟩) hHeld ?r51
          case h51 => (intro w hSw; (try dsimp only at hSw); go_simp; all_goals (try with_reducible rfl))
          simp only [Act.put, List.setIfInBounds_toArray, List.set_cons_zero, List.set_cons_succ]
          refine wpAnyH_done (by kernel_rfl) ?_ _
          try simp only [Act.put, List.setIfInBounds_toArray, List.set_cons_zero, List.set_cons_succ]
          obtain ⟨-, -, hw9, ho9⟩ := hHeld
          go_wp2_with fail
          go_roundw
          case rel => exact ⟨i + 1, now, A2, tn2, _, by omega, by have := HI.out; omega, by go_num, rfl, by omega, (by have := HT.out; omega), hw9, ho9⟩
          case measure => simp [intOf]; omega
        · have hbk0 : (ck == 0) = false := by simpa using hk0
          by_cases hk1 : ck = 1
          · subst hk1
            have hids := hw.1.ids
            have hlen := hw.1.size
            have tc1 : ((wr.alloc (Obj.cells #[.int .i64 1, .int .i64 ci, .int .i64 cz] 37)).drew).cell? ⟨wr.heap.size, 1, none⟩ = some (.int .i64 ci) := by rw [ct.drew.cell]; rfl
            have tc2 : ((wr.alloc (Obj.cells #[.int .i64 1, .int .i64 ci, .int .i64 cz] 37)).drew).cell? ⟨wr.heap.size, 2, none⟩ = some (.int .i64 cz) := by rw [ct.drew.cell]; rfl
            have hTX : ¬ X wr.heap.size := fun h => by have := hw.1.xlt h; omega
            have hwA := hwA.keeps (Only.refl NoBlock _).drew
            have hwT := hwT.keeps (Only.refl NoBlock _).drew
            have hoA := hoA.drew
            go_upto_region 23 with fail
            obtain ⟨T, hT⟩ : ∃ T, wr.heap.size = T := ⟨_, rfl⟩
            rw [hT] at tc1 tc2 hTX hwT ⊢
            clear hT hw ho hA c0 c1 c2 ct
            refine wp_region_held_drew (S := fun w' => w'.cell? ⟨T, 1, none⟩ = some (.int .i64 ci)) (by kernel_rfl) tc1 (fun hHeld => ?_)
            generalize (wr.alloc (Obj.cells #[.int .i64 1, .int .i64 ci, .int .i64 cz] 37)).drew = W0 at hHeld hwA hwT hoA ⊢
            refine Wh.take (i := 0) (d := some 62) (v := ?v52) rfl (by rfl) (by kernel_rfl) (by kernel_rfl) (by kernel_rfl) (fun _ _ _ h => h) (Or.inl ⟨by rfl, ?h52⟩) hHeld ?r52
            case h52 => (intro w hSw; (try dsimp only at hSw); go_simp; all_goals (try with_reducible rfl))
            simp only [Act.put, List.setIfInBounds_toArray, List.set_cons_zero, List.set_cons_succ]
            refine Wh.take (i := 1) (d := some 63) (v := ?v53) rfl (by rfl) (by kernel_rfl) (by kernel_rfl) (by kernel_rfl) (fun _ _ _ h => h) (Or.inl ⟨by rfl, ?h53⟩) hHeld ?r53
            case h53 => (intro w hSw; (try dsimp only at hSw); go_simp; all_goals (try with_reducible rfl))
            simp only [Act.put, List.setIfInBounds_toArray, List.set_cons_zero, List.set_cons_succ]
            refine Wh.take (i := 2) (d := some 64) (v := ?v54) rfl (by rfl) (by kernel_rfl) (by kernel_rfl) (by kernel_rfl) (fun _ _ _ h => h) (Or.inl ⟨by rfl, ?h54⟩) hHeld ?r54
            case h54 => (intro w hSw; (try dsimp only at hSw); go_simp; all_goals (try with_reducible rfl))
            simp only [Act.put, List.setIfInBounds_toArray, List.set_cons_zero, List.set_cons_succ]
            refine Wh.take (i := 4) (d := some 66) (v := ?v55) rfl (by rfl) (by kernel_rfl) (by kernel_rfl) (by kernel_rfl) (fun _ _ _ h => h) (Or.inl ⟨by rfl, ?h55⟩) hHeld ?r55
            case h55 => (intro w hSw; (try dsimp only at hSw); go_simp; all_goals (try with_reducible rfl))
            simp only [Act.put, List.setIfInBounds_toArray, List.set_cons_zero, List.set_cons_succ]
            refine Wh.take (i := 5) (d := some 67) (v := ?v56) rfl (by rfl) (by kernel_rfl) (by kernel_rfl) (by kernel_rfl) (fun _ _ _ h => h) (Or.inl ⟨by rfl, ?h56⟩) hHeld ?r56
            case h56 => (intro w hSw; (try dsimp only at hSw); go_simp; all_goals (try with_reducible rfl))
            simp only [Act.put, List.setIfInBounds_toArray, List.set_cons_zero, List.set_cons_succ]
            refine Wh.take (i := 6) (d := some 68) (v := ?v57) rfl (by rfl) (by kernel_rfl) (by kernel_rfl) (by kernel_rfl) (fun _ _ _ h => h) (Or.inl ⟨by rfl, ?h57⟩) hHeld ?r57
            case h57 => (intro w hSw; (try dsimp only at hSw); go_simp; all_goals (try with_reducible rfl))
            simp only [Act.put, List.setIfInBounds_toArray, List.set_cons_zero, List.set_cons_succ]
            refine wpAnyH_ready (rs := [3]) (by kernel_rfl) (by simp) ?_
            refine AllReadyH.cons rfl (fun K hK => ?_) AllReadyH.nil
            have hq1 := stop_i _ B p now (fun b => X b ∨ b = T) A turn hwT ci
            go_simp
            refine (hq1).mono ?_
            rintro e w5 ⟨rfl, h5, o5⟩
            have o5x : Only (fun k => B ≤ k ∧ ¬ X k) W0 w5 := o5.mono (fun k e => ⟨e.1, fun h => e.2 (.inl h)⟩)
            have hsw5 : w5.cell? ⟨T, 1, none⟩ = some (.int .i64 ci) := (World.cell?_of_block (a := ⟨T, 1, none⟩) (o5.block T (World.block_lt_of_cell? _ _ hHeld) (fun e => e.2 (.inr rfl)))).trans hHeld
            refine hK.out _ _ hsw5 (fun hHeld => ?_)
            clear hK K
            try simp only [Act.put, List.setIfInBounds_toArray, List.set_cons_zero, List.set_cons_succ]
            clear hq1 hsw5
            refine wpAnyH_ready (rs := [7]) (by kernel_rfl) (by simp) ?_
            refine AllReadyH.cons rfl (fun K hK => ?_) AllReadyH.nil
            have hq2 := rstop_at _ X r now A (hwA.first o5x) hids (by omega) ci
            go_simp
            refine (hq2).mono ?_
            rintro e w6 ⟨rfl, h6, o6⟩
            have hsw6 : w6.cell? ⟨T, 1, none⟩ = some (.int .i64 ci) := (World.cell?_of_block (a := ⟨T, 1, none⟩) (o6.block T (World.block_lt_of_cell? _ _ hHeld) hTX)).trans hHeld
            refine hK.out _ _ hsw6 (fun hHeld => ?_)
            clear hK K
            try simp only [Act.put, List.setIfInBounds_toArray, List.set_cons_zero, List.set_cons_succ]
            have hw4 : Both9 w6 B (Rw.plus X w5 w6) p r now (Wh.dropA A ci) turn := hwA.wr h5 (fun b e => .inl e) o5x h6 o6
            have ho4 := Only.freshB hoA (hwA.only o5x o6) hB
            clear hq2 hsw6 h5 h6 o5 o5x o6 hwA hwT hoA
            refine Wh.take (i := 8) (d := some 70) (v := ?v58) rfl (by rfl) (by kernel_rfl) (by kernel_rfl) (by kernel_rfl) (fun _ _ _ h => h) (Or.inl ⟨by rfl, ?h58⟩) hHeld ?r58
            case h58 => (intro w hSw; (try dsimp only at hSw); go_simp; all_goals (try with_reducible rfl))
            simp only [Act.put, List.setIfInBounds_toArray, List.set_cons_zero, List.set_cons_succ]
            refine wpAnyH_done (by kernel_rfl) ?_ _
            try simp only [Act.put, List.setIfInBounds_toArray, List.set_cons_zero, List.set_cons_succ]
            go_upto_region 25 with fail
            obtain ⟨vi, vd, hbR, hriR, _⟩ := _root_.id hw4.2.1
            obtain ⟨ai, ca, rfl, _⟩ := hriR.shape
            have n0 := hbR.drew.cell 0
            have n1 := hbR.drew.cell 1
            simp at n0 n1
            have hS := hw4.keeps (Only.refl NoBlock _).drew
            have hSo := ho4.drew
            clear hbR hriR hw4 ho4
            refine wp_region_held_drew (S := fun w' => w'.cell? ⟨r, 0, none⟩ = some (.int .u64 now) ∧ w'.cell? ⟨r, 1, none⟩ = some (.slice ai (Wh.dropA A ci).length ca) ∧ Both9 w' B (Rw.plus X w5 w6) p r now (Wh.dropA A ci) turn ∧ Only NoBlock w w') (by kernel_rfl) ⟨n0, n1, hS, hSo⟩ (fun hHeld => ?_)
            clear n0 n1 hS hSo
            refine Wh.take (i := 0) (d := some 71) (v := ?v59) rfl (by rfl) (by kernel_rfl) (by kernel_rfl) (by kernel_rfl) (fun _ _ _ h => h) (Or.inl ⟨by rfl, ?h59⟩) hHeld ?r59
            case h59 => (intro w hSw; (try dsimp only at hSw); go_simp; all_goals (try with_reducible rfl))
            simp only [Act.put, List.setIfInBounds_toArray, List.set_cons_zero, List.set_cons_succ]
            refine Wh.take (i := 2) (d := some 73) (v := ?v60) rfl (by rfl) (by kernel_rfl) (by kernel_rfl) (by kernel_rfl) (fun _ _ _ h => h) (Or.inl ⟨by rfl, ?h60⟩) hHeld ?r60
            case h60 => (intro w hSw; (try dsimp only at hSw); go_simp; all_goals (try with_reducible rfl))
            simp only [Act.put, List.setIfInBounds_toArray, List.set_cons_zero, List.set_cons_succ]
            refine Wh.take (i := 3) (d := some 74) (v := ?v61) rfl (by rfl) (by kernel_rfl) (by kernel_rfl) (by kernel_rfl) (fun _ _ _ h => h) (Or.inl ⟨by rfl, ?h61⟩) hHeld ?r61
            case h61 => (intro w hSw; (try dsimp only at hSw); go_simp; all_goals (try with_reducible rfl))
            simp only [Act.put, List.setIfInBounds_toArray, List.set_cons_zero, List.set_cons_succ]
            refine Wh.take (i := 4) (d := some 75) (v := ?v62) rfl (by rfl) (by kernel_rfl) (by kernel_rfl) (by kernel_rfl) (fun _ _ _ h => h) (Or.inl ⟨by rfl, ?h62⟩) hHeld ?r62
            case h62 => (intro w hSw; (try dsimp only at hSw); go_simp; all_goals (try with_reducible rfl))
            simp only [Act.put, List.setIfInBounds_toArray, List.set_cons_zero, List.set_cons_succ]
            refine Wh.take (i := 5) (d := some 76) (v := ?v63) rfl (by rfl) (by kernel_rfl) (by kernel_rfl) (by kernel_rfl) (fun _ _ _ h => h) (Or.inl ⟨by rfl, ?h63⟩) hHeld ?r63
            case h63 => (intro w hSw; (try dsimp only at hSw); go_simp; all_goals (try with_reducible rfl))
            simp only [Act.put, List.setIfInBounds_toArray, List.set_cons_zero, List.set_cons_succ]
            refine wpAnyH_ready (rs := [1]) (by kernel_rfl) (by simp) ?_
            refine AllReadyH.cons rfl (fun K hK => ?_) AllReadyH.nil
            go_simp
            refine (now_held hHeld).mono ?_
            rintro e wa ⟨rfl, k1, k2, k3, k4⟩
            clear hHeld
            refine hK.out _ _ ⟨k1, k2, k3, k4⟩ (fun hHeld => ?_)
            clear hK K
            try simp only [Act.put, List.setIfInBounds_toArray, List.set_cons_zero, List.set_cons_succ]
            clear k1 k2 k3 k4
            refine Wh.take (i := 6) (d := some 77) (v := ?v64) rfl (by rfl) (by kernel_rfl) (by kernel_rfl) (by kernel_rfl) (fun _ _ _ h => h) (Or.inl ⟨by rfl, ?h64⟩) hHeld ?r64
            case h64 => (intro w hSw; (try dsimp only at hSw); go_simp; all_goals (try with_reducible rfl))
            simp only [Act.put, List.setIfInBounds_toArray, List.set_cons_zero, List.set_cons_succ]
            refine Wh.take (i := 7) (d := some 78) (v := ?v65) rfl (by rfl) (by kernel_rfl) (by kernel_rfl) (by kernel_rfl) (fun _ _ _ h => h) (Or.inl ⟨by rfl, ?h65⟩) hHeld ?r65
            case h65 => (intro w hSw; (try dsimp only at hSw); go_simp; all_goals (try with_reducible rfl))
            simp only [Act.put, List.setIfInBounds_toArray, List.set_cons_zero, List.set_cons_succ]
            refine Wh.take (i := 8) (d := some 79) (v := ?v66) rfl (by rfl) (by kernel_rfl) (by kernel_rfl) (by kernel_rfl) (fun _ _ _ h => h) (Or.inl ⟨by rfl, ?h66⟩) hHeld ?r66
            case h66 => (intro w hSw; (try dsimp only at hSw); go_simp; all_goals (try with_reducible rfl))
            simp only [Act.put, List.setIfInBounds_toArray, List.set_cons_zero, List.set_cons_succ]
            refine Wh.take (i := 10) (d := some 81) (v := ?v67) rfl (by rfl) (by kernel_rfl) (by kernel_rfl) (by kernel_rfl) (fun _ _ _ h => h) (Or.inl ⟨by rfl, ?h67⟩) hHeld ?r67
            case h67 => (intro w hSw; (try dsimp only at hSw); go_simp; all_goals (try with_reducible rfl))
            simp only [Act.put, List.setIfInBounds_toArray, List.set_cons_zero, List.set_cons_succ]
            refine Wh.take (i := 11) (d := some 82) (v := ?v68) rfl (by rfl) (by kernel_rfl) (by kernel_rfl) (by kernel_rfl) (fun _ _ _ h => h) (Or.inl ⟨by rfl, ?h68⟩) hHeld ?r68
            case h68 => (intro w hSw; (try dsimp only at hSw); go_simp; all_goals (try with_reducible rfl))
            simp only [Act.put, List.setIfInBounds_toArray, List.set_cons_zero, List.set_cons_succ]
            refine Wh.take (i := 12) (d := some 83) (v := ?v69) rfl (by rfl) (by kernel_rfl) (by kernel_rfl) (by kernel_rfl) (fun _ _ _ h => h) (Or.inl ⟨by rfl, ?h69⟩) hHeld ?r69
            case h69 => (intro w hSw; (try dsimp only at hSw); go_simp; all_goals (try with_reducible rfl))
            simp only [Act.put, List.setIfInBounds_toArray, List.set_cons_zero, List.set_cons_succ]
            refine Wh.take (i := 13) (d := some 84) (v := ?v70) rfl (by rfl) (by kernel_rfl) (by kernel_rfl) (by kernel_rfl) (fun _ _ _ h => h) (Or.inl ⟨by rfl, ?h70⟩) hHeld ?r70
            case h70 => (intro w hSw; (try dsimp only at hSw); go_simp; all_goals (try with_reducible rfl))
            simp only [Act.put, List.setIfInBounds_toArray, List.set_cons_zero, List.set_cons_succ]
            refine Wh.take (i := 14) (d := some 85) (v := ?v71) rfl (by rfl) (by kernel_rfl) (by kernel_rfl) (by kernel_rfl) (fun _ _ _ h => h) (Or.inl ⟨by rfl, ?h71⟩) hHeld ?r71
            case h71 => (intro w hSw; (try dsimp only at hSw); go_simp; all_goals (try with_reducible rfl))
            simp only [Act.put, List.setIfInBounds_toArray, List.set_cons_zero, List.set_cons_succ]
            refine wpAnyH_ready (rs := [9]) (by kernel_rfl) (by simp) ?_
            refine AllReadyH.cons rfl (fun K hK => ?_) AllReadyH.nil
            go_simp
            refine (len_held hHeld).mono ?_
            rintro e wb ⟨rfl, k1, k2, k3, k4⟩
            clear hHeld
            refine hK.out _ _ ⟨k1, k2, k3, k4⟩ (fun hHeld => ?_)
            clear hK K
            try simp only [Act.put, List.setIfInBounds_toArray, List.set_cons_zero, List.set_cons_succ]
            clear k1 k2 k3 k4
            refine Wh.take (i := 15) (d := some 86) (v := ?v72) rfl (by rfl) (by kernel_rfl) (by kernel_rfl) (by kernel_rfl) (fun _ _ _ h => h) (Or.inl ⟨by rfl, ?h72⟩) hHeld ?r72
            case h72 => (intro w hSw; (try dsimp only at hSw); go_simp; all_goals (try with_reducible rfl))
            simp only [Act.put, List.setIfInBounds_toArray, List.set_cons_zero, List.set_cons_succ]
            refine Wh.take (i := 16) (d := some 87) (v := ?v73) rfl (by rfl) (by kernel_rfl) (by kernel_rfl) (by kernel_rfl) (fun _ _ _ h => h) (Or.inl ⟨by rfl, ?h73⟩) hHeld ?r73
            case h73 => (intro w hSw; (try dsimp only at hSw); go_simp; all_goals (try with_reducible rfl))
            simp only [Act.put, List.setIfInBounds_toArray, List.set_cons_zero, List.set_cons_succ]
            refine Wh.take (i := 17) (d := some 88) (v := ?v74) rfl (by rfl) (by kernel_rfl) (by kernel_rfl) (by kernel_rfl) (fun _ _ _ h => h) (Or.inl ⟨by rfl, ?h74⟩) hHeld ?r74
            case h74 => (intro w hSw; (try dsimp only at hSw); go_simp; all_goals (try with_reducible rfl))
            simp only [Act.put, List.setIfInBounds_toArray, List.set_cons_zero, List.set_cons_succ]
            refine Wh.take (i := 18) (d := some 89) (v := ?v75) rfl (by rfl) (by kernel_rfl) (by kernel_rfl) (by kernel_rfl) (fun _ _ _ h => h) (Or.inl ⟨by rfl, ?h75⟩) hHeld ?r75
            case h75 => (intro w hSw; (try dsimp only at hSw); go_simp; all_goals (try with_reducible rfl))
            simp only [Act.put, List.setIfInBounds_toArray, List.set_cons_zero, List.set_cons_succ]
            refine Wh.take (i := 20) (d := some 91) (v := ?v76) rfl (by rfl) (by kernel_rfl) (by kernel_rfl) (by kernel_rfl) (fun _ _ _ h => h) (Or.inl ⟨by rfl, ?h76⟩) hHeld ?r76
            case h76 => (intro w hSw; (try dsimp only at hSw); go_simp; all_goals (try with_reducible rfl))
            simp only [Act.put, List.setIfInBounds_toArray, List.set_cons_zero, List.set_cons_succ]
            refine wpAnyH_ready (rs := [19]) (by kernel_rfl) (by simp) ?_
            refine AllReadyH.cons rfl (fun K hK => ?_) AllReadyH.nil
            go_simp
            refine (due_held hHeld).mono ?_
            rintro e wc ⟨rfl, k1, k2, k3, k4⟩
            clear hHeld
            refine hK.out _ _ ⟨k1, k2, k3, k4⟩ (fun hHeld => ?_)
            clear hK K
            try simp only [Act.put, List.setIfInBounds_toArray, List.set_cons_zero, List.set_cons_succ]
            clear k1 k2 k3 k4
            refine wpAnyH_ready (rs := [21]) (by kernel_rfl) (by simp) ?_
            refine AllReadyH.cons rfl (fun K hK => ?_) AllReadyH.nil
            go_simp
            refine (next_held hHeld).mono ?_
            rintro e wd ⟨rfl, k1, k2, k3, k4⟩
            clear hHeld
            refine hK.out _ _ ⟨k1, k2, k3, k4⟩ (fun hHeld => ?_)
            clear hK K
            try simp only [Act.put, List.setIfInBounds_toArray, List.set_cons_zero, List.set_cons_succ]
            clear k1 k2 k3 k4
            refine Wh.take (i := 22) (d := some 93) (v := ?v77) rfl (by rfl) (by kernel_rfl) (by kernel_rfl) (by kernel_rfl) (fun _ _ _ h => h) (Or.inl ⟨by rfl, ?h77⟩) hHeld ?r77
            case h77 => (intro w hSw; (try dsimp only at hSw); go_simp; all_goals (try with_reducible rfl))
            simp only [Act.put, List.setIfInBounds_toArray, List.set_cons_zero, List.set_cons_succ]
            refine Wh.take (i := 23) (d := some 94) (v := ?v78) rfl (by rfl) (by kernel_rfl) (by kernel_rfl) (by kernel_rfl) (fun _ _ _ h => h) (Or.inl ⟨by rfl, ?h78⟩) hHeld ?r78
            case h78 => (intro w hSw; (try dsimp only at hSw); go_simp; all_goals (try with_reducible rfl))
            simp only [Act.put, List.setIfInBounds_toArray, List.set_cons_zero, List.set_cons_succ]
            refine wpAnyH_done (by kernel_rfl) ?_ _
            try simp only [Act.put, List.setIfInBounds_toArray, List.set_cons_zero, List.set_cons_succ]
            obtain ⟨-, -, hw9, ho9⟩ := hHeld
            go_wp2_with fail
            go_roundw
            case rel => exact ⟨i + 1, now, (Wh.dropA A ci), turn, _, by omega, by have := HI.out; omega, by go_num, rfl, by omega, by omega, hw9, ho9⟩
            case measure => simp [intOf]; omega
          · have hbk1 : (ck == 1) = false := by simpa using hk1
            obtain ⟨n, hn, en⟩ := norm_mod cz 3000 (by decide) (by decide)
            replace en : (wrap64 (cz.tmod 3000 + 3000)).tmod 3000 = (n : Int) := en
            have hwt : IntKind.i64.wrap ((now : Int) + (n : Int)) = ((now + n : Nat) : Int) := by rw [IntWalk.i64_in _ (by omega)]; push_cast; rfl
            clear hk0 hk1
            by_cases hbig : 20000 < now + n
            · have hbb : decide (20000 < ((now + n : Nat) : Int)) = true := by rw [decide_eq_true_eq]; omega
              have hbb2 : decide (20000 < (now : Int) + (n : Int)) = true := by rw [decide_eq_true_eq]; omega
              go_wp2_with fail
              go_ret
              exact ⟨rfl, hoA⟩
            · have hbb : decide (20000 < ((now + n : Nat) : Int)) = false := by rw [decide_eq_false_iff_not]; omega
              have hbb2 : decide (20000 < (now : Int) + (n : Int)) = false := by rw [decide_eq_false_iff_not]; omega
              have HBIG := Lib.hid hbig
              clear hbig
              go_upto_region 15 with fail
              generalize wr.alloc (Obj.cells #[.int .i64 ck, .int .i64 ci, .int .i64 cz] 37) = w4 at hwA hoA ⊢
              clear hA ct hwT hw ho c0 c1 c2 en hwt hbb hbb2 hbk0 hbk1 hb3
              go_loopw [36] (fun u36 wr => ∃ (k : Nat) (A' : List Wh.Tm) (X' : Nat → Prop), k ≤ n ∧ u36 = .int .i64 k ∧ Both9 wr B X' p r (now + k) A' turn ∧ Only NoBlock w wr) (fun u36 _ => n - (intOf u36).toNat)
              case atStart => exact ⟨0, A, X, by omega, rfl, hwA, hoA⟩
              case round =>
                obtain ⟨k, A', X', hk, rfl, hw', ho'⟩ := hrel
                by_cases hlk : k < n
                · have htk := tick_i wr B p (now + k) X' A' turn hw'.1 (by omega)
                  have hA64 := hw'.1.size
                  have hids : ∀ x ∈ (Wh.dueA A' (now + k + 1)).map (·.id), (Lit.int .i64 x).wf = true := fun x hx => by
                    obtain ⟨t, ht, rfl⟩ := List.mem_map.1 hx
                    exact hw'.1.wfid (List.mem_filter.1 ht).1
                  have hlen : ((Wh.dueA A' (now + k + 1)).map (·.id)).length ≤ maxLen := by
                    rw [List.length_map]
                    have h1 : (Wh.dueA A' (now + k + 1)).length ≤ A'.length := List.length_filter_le _ _
                    unfold maxLen
                    omega
                  go_upto_region 16 with fail
                  go_wp2_with fail
                  refine htk.mono ?_
                  rintro e w6 ⟨v, rfl, hI, h6, o6⟩
                  have hrt := rtick_at w6 X' r (now + k) A' (hw'.first o6) (by omega) (by omega)
                  clear htk
                  go_wp2_with fail
                  refine hrt.mono ?_
                  rintro e w7 ⟨v7, rfl, hI7, h7, o7⟩
                  have hvo : ∀ b, v.ownBlock = some b → ¬ X' b := fun b e hx => by
                    have := (Ints.lt9 hI b e).1
                    have := hw'.1.xlt hx
                    omega
                  have hI6 := hI.keeps' o7 hvo
                  have hB7 : Both9 w7 B (Rw.plus X' w6 w7) p r (now + k + 1) (Wh.restA A' (now + k + 1)) turn := hw'.wr h6 (fun b e => .inl e) o6 h7 o7
                  have ho7 := Only.freshB ho' (hw'.only o6 o7) hB
                  clear hrt hI h6 o6 h7 o7 hw' ho' hvo
                  obtain ⟨DL, hDL⟩ : ∃ DL, (Wh.dueA A' (now + k + 1)).map (·.id) = DL := ⟨_, rfl⟩
                  rw [hDL] at hI6 hI7 hlen hids
                  clear hDL
                  obtain ⟨ai, ca, rfl, hg1⟩ := hI6.read hlen hids
                  obtain ⟨aj, cb, rfl, hg2⟩ := hI7.read hlen hids
                  have heq := ints_at w7 ai aj ca cb _ _ hg1 hg2
                  have hd : decide (DL = DL) = true := by simp
                  rw [hd] at heq
                  clear hI6 hI7 hg1 hg2 hd hids hlen
                  go_wp2_with fail
                  refine heq.mono ?_
                  rintro e w8 ⟨rfl, q, rfl⟩
                  have hB8 := hB7.keeps ((Only.refl NoBlock w7).drewN q)
                  have ho8 := ho7.drewN q
                  generalize w7.drewN q = w8 at hB8 ho8 ⊢
                  clear heq hB7 ho7
                  go_wp2_with fail
                  go_roundw
                  case rel => exact ⟨k + 1, _, _, by omega, by go_num, hB8, ho8⟩
                  case measure => simp [intOf]; omega
                · obtain rfl : k = n := by omega
                  go_upto_region 25 with fail
                  have hw4 := hw'
                  have ho4 := ho'
                  obtain ⟨N, hN⟩ : ∃ N, now + k = N := ⟨_, rfl⟩
                  rw [hN] at hw4
                  have hN2 : N ≤ 20000 := by have := HBIG.out; omega
                  have HNN := Lib.hid hN
                  clear hN hw' ho'
                  obtain ⟨vi, vd, hbR, hriR, _⟩ := _root_.id hw4.2.1
                  obtain ⟨ai, ca, rfl, _⟩ := hriR.shape
                  have n0 := hbR.drew.cell 0
                  have n1 := hbR.drew.cell 1
                  simp at n0 n1
                  have hS := hw4.keeps (Only.refl NoBlock _).drew
                  have hSo := ho4.drew
                  clear hbR hriR hw4 ho4
                  refine wp_region_held_drew (S := fun w' => w'.cell? ⟨r, 0, none⟩ = some (.int .u64 N) ∧ w'.cell? ⟨r, 1, none⟩ = some (.slice ai A'.length ca) ∧ Both9 w' B X' p r N A' turn ∧ Only NoBlock w w') (by kernel_rfl) ⟨n0, n1, hS, hSo⟩ (fun hHeld => ?_)
                  clear n0 n1 hS hSo
                  refine Wh.take (i := 0) (d := some 71) (v := ?v1) rfl (by rfl) (by kernel_rfl) (by kernel_rfl) (by kernel_rfl) (fun _ _ _ h => h) (Or.inl ⟨by rfl, ?h1⟩) hHeld ?r1
                  case h1 => (intro w hSw; (try dsimp only at hSw); go_simp; all_goals (try with_reducible rfl))
                  simp only [Act.put, List.setIfInBounds_toArray, List.set_cons_zero, List.set_cons_succ]
                  refine Wh.take (i := 2) (d := some 73) (v := ?v2) rfl (by rfl) (by kernel_rfl) (by kernel_rfl) (by kernel_rfl) (fun _ _ _ h => h) (Or.inl ⟨by rfl, ?h2⟩) hHeld ?r2
                  case h2 => (intro w hSw; (try dsimp only at hSw); go_simp; all_goals (try with_reducible rfl))
                  simp only [Act.put, List.setIfInBounds_toArray, List.set_cons_zero, List.set_cons_succ]
                  refine Wh.take (i := 3) (d := some 74) (v := ?v3) rfl (by rfl) (by kernel_rfl) (by kernel_rfl) (by kernel_rfl) (fun _ _ _ h => h) (Or.inl ⟨by rfl, ?h3⟩) hHeld ?r3
                  case h3 => (intro w hSw; (try dsimp only at hSw); go_simp; all_goals (try with_reducible rfl))
                  simp only [Act.put, List.setIfInBounds_toArray, List.set_cons_zero, List.set_cons_succ]
                  refine Wh.take (i := 4) (d := some 75) (v := ?v4) rfl (by rfl) (by kernel_rfl) (by kernel_rfl) (by kernel_rfl) (fun _ _ _ h => h) (Or.inl ⟨by rfl, ?h4⟩) hHeld ?r4
                  case h4 => (intro w hSw; (try dsimp only at hSw); go_simp; all_goals (try with_reducible rfl))
                  simp only [Act.put, List.setIfInBounds_toArray, List.set_cons_zero, List.set_cons_succ]
                  refine Wh.take (i := 5) (d := some 76) (v := ?v5) rfl (by rfl) (by kernel_rfl) (by kernel_rfl) (by kernel_rfl) (fun _ _ _ h => h) (Or.inl ⟨by rfl, ?h5⟩) hHeld ?r5
                  case h5 => (intro w hSw; (try dsimp only at hSw); go_simp; all_goals (try with_reducible rfl))
                  simp only [Act.put, List.setIfInBounds_toArray, List.set_cons_zero, List.set_cons_succ]
                  refine wpAnyH_ready (rs := [1]) (by kernel_rfl) (by simp) ?_
                  refine AllReadyH.cons rfl (fun K hK => ?_) AllReadyH.nil
                  go_simp
                  refine (now_held hHeld).mono ?_
                  rintro e wa ⟨rfl, k1, k2, k3, k4⟩
                  clear hHeld
                  refine hK.out _ _ ⟨k1, k2, k3, k4⟩ (fun hHeld => ?_)
                  clear hK K
                  try simp only [Act.put, List.setIfInBounds_toArray, List.set_cons_zero, List.set_cons_succ]
                  clear k1 k2 k3 k4
                  refine Wh.take (i := 6) (d := some 77) (v := ?v6) rfl (by rfl) (by kernel_rfl) (by kernel_rfl) (by kernel_rfl) (fun _ _ _ h => h) (Or.inl ⟨by rfl, ?h6⟩) hHeld ?r6
                  case h6 => (intro w hSw; (try dsimp only at hSw); go_simp; all_goals (try with_reducible rfl))
                  simp only [Act.put, List.setIfInBounds_toArray, List.set_cons_zero, List.set_cons_succ]
                  refine Wh.take (i := 7) (d := some 78) (v := ?v7) rfl (by rfl) (by kernel_rfl) (by kernel_rfl) (by kernel_rfl) (fun _ _ _ h => h) (Or.inl ⟨by rfl, ?h7⟩) hHeld ?r7
                  case h7 => (intro w hSw; (try dsimp only at hSw); go_simp; all_goals (try with_reducible rfl))
                  simp only [Act.put, List.setIfInBounds_toArray, List.set_cons_zero, List.set_cons_succ]
                  refine Wh.take (i := 8) (d := some 79) (v := ?v8) rfl (by rfl) (by kernel_rfl) (by kernel_rfl) (by kernel_rfl) (fun _ _ _ h => h) (Or.inl ⟨by rfl, ?h8⟩) hHeld ?r8
                  case h8 => (intro w hSw; (try dsimp only at hSw); go_simp; all_goals (try with_reducible rfl))
                  simp only [Act.put, List.setIfInBounds_toArray, List.set_cons_zero, List.set_cons_succ]
                  refine Wh.take (i := 10) (d := some 81) (v := ?v9) rfl (by rfl) (by kernel_rfl) (by kernel_rfl) (by kernel_rfl) (fun _ _ _ h => h) (Or.inl ⟨by rfl, ?h9⟩) hHeld ?r9
                  case h9 => (intro w hSw; (try dsimp only at hSw); go_simp; all_goals (try with_reducible rfl))
                  simp only [Act.put, List.setIfInBounds_toArray, List.set_cons_zero, List.set_cons_succ]
                  refine Wh.take (i := 11) (d := some 82) (v := ?v10) rfl (by rfl) (by kernel_rfl) (by kernel_rfl) (by kernel_rfl) (fun _ _ _ h => h) (Or.inl ⟨by rfl, ?h10⟩) hHeld ?r10
                  case h10 => (intro w hSw; (try dsimp only at hSw); go_simp; all_goals (try with_reducible rfl))
                  simp only [Act.put, List.setIfInBounds_toArray, List.set_cons_zero, List.set_cons_succ]
                  refine Wh.take (i := 12) (d := some 83) (v := ?v11) rfl (by rfl) (by kernel_rfl) (by kernel_rfl) (by kernel_rfl) (fun _ _ _ h => h) (Or.inl ⟨by rfl, ?h11⟩) hHeld ?r11
                  case h11 => (intro w hSw; (try dsimp only at hSw); go_simp; all_goals (try with_reducible rfl))
                  simp only [Act.put, List.setIfInBounds_toArray, List.set_cons_zero, List.set_cons_succ]
                  refine Wh.take (i := 13) (d := some 84) (v := ?v12) rfl (by rfl) (by kernel_rfl) (by kernel_rfl) (by kernel_rfl) (fun _ _ _ h => h) (Or.inl ⟨by rfl, ?h12⟩) hHeld ?r12
                  case h12 => (intro w hSw; (try dsimp only at hSw); go_simp; all_goals (try with_reducible rfl))
                  simp only [Act.put, List.setIfInBounds_toArray, List.set_cons_zero, List.set_cons_succ]
                  refine Wh.take (i := 14) (d := some 85) (v := ?v13) rfl (by rfl) (by kernel_rfl) (by kernel_rfl) (by kernel_rfl) (fun _ _ _ h => h) (Or.inl ⟨by rfl, ?h13⟩) hHeld ?r13
                  case h13 => (intro w hSw; (try dsimp only at hSw); go_simp; all_goals (try with_reducible rfl))
                  simp only [Act.put, List.setIfInBounds_toArray, List.set_cons_zero, List.set_cons_succ]
                  refine wpAnyH_ready (rs := [9]) (by kernel_rfl) (by simp) ?_
                  refine AllReadyH.cons rfl (fun K hK => ?_) AllReadyH.nil
                  go_simp
                  refine (len_held hHeld).mono ?_
                  rintro e wb ⟨rfl, k1, k2, k3, k4⟩
                  clear hHeld
                  refine hK.out _ _ ⟨k1, k2, k3, k4⟩ (fun hHeld => ?_)
                  clear hK K
                  try simp only [Act.put, List.setIfInBounds_toArray, List.set_cons_zero, List.set_cons_succ]
                  clear k1 k2 k3 k4
                  refine Wh.take (i := 15) (d := some 86) (v := ?v14) rfl (by rfl) (by kernel_rfl) (by kernel_rfl) (by kernel_rfl) (fun _ _ _ h => h) (Or.inl ⟨by rfl, ?h14⟩) hHeld ?r14
                  case h14 => (intro w hSw; (try dsimp only at hSw); go_simp; all_goals (try with_reducible rfl))
                  simp only [Act.put, List.setIfInBounds_toArray, List.set_cons_zero, List.set_cons_succ]
                  refine Wh.take (i := 16) (d := some 87) (v := ?v15) rfl (by rfl) (by kernel_rfl) (by kernel_rfl) (by kernel_rfl) (fun _ _ _ h => h) (Or.inl ⟨by rfl, ?h15⟩) hHeld ?r15
                  case h15 => (intro w hSw; (try dsimp only at hSw); go_simp; all_goals (try with_reducible rfl))
                  simp only [Act.put, List.setIfInBounds_toArray, List.set_cons_zero, List.set_cons_succ]
                  refine Wh.take (i := 17) (d := some 88) (v := ?v16) rfl (by rfl) (by kernel_rfl) (by kernel_rfl) (by kernel_rfl) (fun _ _ _ h => h) (Or.inl ⟨by rfl, ?h16⟩) hHeld ?r16
                  case h16 => (intro w hSw; (try dsimp only at hSw); go_simp; all_goals (try with_reducible rfl))
                  simp only [Act.put, List.setIfInBounds_toArray, List.set_cons_zero, List.set_cons_succ]
                  refine Wh.take (i := 18) (d := some 89) (v := ?v17) rfl (by rfl) (by kernel_rfl) (by kernel_rfl) (by kernel_rfl) (fun _ _ _ h => h) (Or.inl ⟨by rfl, ?h17⟩) hHeld ?r17
                  case h17 => (intro w hSw; (try dsimp only at hSw); go_simp; all_goals (try with_reducible rfl))
                  simp only [Act.put, List.setIfInBounds_toArray, List.set_cons_zero, List.set_cons_succ]
                  refine Wh.take (i := 20) (d := some 91) (v := ?v18) rfl (by rfl) (by kernel_rfl) (by kernel_rfl) (by kernel_rfl) (fun _ _ _ h => h) (Or.inl ⟨by rfl, ?h18⟩) hHeld ?r18
                  case h18 => (intro w hSw; (try dsimp only at hSw); go_simp; all_goals (try with_reducible rfl))
                  simp only [Act.put, List.setIfInBounds_toArray, List.set_cons_zero, List.set_cons_succ]
                  refine wpAnyH_ready (rs := [19]) (by kernel_rfl) (by simp) ?_
                  refine AllReadyH.cons rfl (fun K hK => ?_) AllReadyH.nil
                  go_simp
                  refine (due_held hHeld).mono ?_
                  rintro e wc ⟨rfl, k1, k2, k3, k4⟩
                  clear hHeld
                  refine hK.out _ _ ⟨k1, k2, k3, k4⟩ (fun hHeld => ?_)
                  clear hK K
                  try simp only [Act.put, List.setIfInBounds_toArray, List.set_cons_zero, List.set_cons_succ]
                  clear k1 k2 k3 k4
                  refine wpAnyH_ready (rs := [21]) (by kernel_rfl) (by simp) ?_
                  refine AllReadyH.cons rfl (fun K hK => ?_) AllReadyH.nil
                  go_simp
                  refine (next_held hHeld).mono ?_
                  rintro e wd ⟨rfl, k1, k2, k3, k4⟩
                  clear hHeld
                  refine hK.out _ _ ⟨k1, k2, k3, k4⟩ (fun hHeld => ?_)
                  clear hK K
                  try simp only [Act.put, List.setIfInBounds_toArray, List.set_cons_zero, List.set_cons_succ]
                  clear k1 k2 k3 k4
                  refine Wh.take (i := 22) (d := some 93) (v := ?v19) rfl (by rfl) (by kernel_rfl) (by kernel_rfl) (by kernel_rfl) (fun _ _ _ h => h) (Or.inl ⟨by rfl, ?h19⟩) hHeld ?r19
                  case h19 => (intro w hSw; (try dsimp only at hSw); go_simp; all_goals (try with_reducible rfl))
                  simp only [Act.put, List.setIfInBounds_toArray, List.set_cons_zero, List.set_cons_succ]
                  refine Wh.take (i := 23) (d := some 94) (v := ?v20) rfl (by rfl) (by kernel_rfl) (by kernel_rfl) (by kernel_rfl) (fun _ _ _ h => h) (Or.inl ⟨by rfl, ?h20⟩) hHeld ?r20
                  case h20 => (intro w hSw; (try dsimp only at hSw); go_simp; all_goals (try with_reducible rfl))
                  simp only [Act.put, List.setIfInBounds_toArray, List.set_cons_zero, List.set_cons_succ]
                  refine wpAnyH_done (by kernel_rfl) ?_ _
                  try simp only [Act.put, List.setIfInBounds_toArray, List.set_cons_zero, List.set_cons_succ]
                  obtain ⟨-, -, hw9, ho9⟩ := hHeld
                  go_wp2_with fail
                  go_roundw
                  case rel => exact ⟨i + 1, N, A', turn, X', by omega, by have := HI.out; omega, by go_num, (by first | (rw [← HNN.out]; push_cast; rfl) | (rw [← HNN.out]; rfl) | rw [← HNN.out]), hN2, by omega, hw9, ho9⟩
                  case measure => simp [intOf]; omega
    · have hil : i = l.length := by omega
      go_wp2_with fail
      go_ret
      exact ⟨rfl, ho⟩
theorem walk_WheelRuns {w : World} (a0 : List CallW × Option Addr × Nat) (h0 : CallsIn9 w a0.2.1 a0.1) :
    Calls Try.prog 7 #[.slice a0.2.1 a0.1.length a0.2.2] w fun e w' => e = .returned (.bool true) ∧ Below w.heap.size w w' :=
  (walk9_runs w a0.1 a0.2.1 a0.2.2 h0).mono fun _ _ h => ⟨h.1, h.2.below (Nat.le_refl _) (fun _ h => h.elim)⟩
end Go.Proofs.Ytklpdkojffaiiaa
