/- Save: what the plain data say. -/
import Derived.Test.YtekmjhenhgmpgaaNeq
import Derived.Deep.CutBlock
namespace Go.Proofs.Ytekmjhenhgmpgaa
open Go.RowKit
set_option maxRecDepth 100000

set_option maxHeartbeats 4000000 in
theorem save_at (w : World) (base t g d mb : Nat) (M : DM) (n : Int) (s : St) (h : Hrd) (hh : h.Wf) (ao : Option Addr) (cap : Nat) (l : List Ent)
    (hd : DiskAt w d mb M) (hw : (Lit.int .i64 n).wf = true) (hg : LogAt w g d n) (hS : StoreAt w base t g s) (hbase : base ≤ w.heap.size) (hl : EntsIn w ao l)
    (hse : s.es.length ≤ 1000000000) (hle : l.length ≤ 1000000000) (hdat : ∀ e ∈ l, e.data.size ≤ 1000000000) (hsz : (Wal.text (Sto.out s h l)).size ≤ 1000000000) :
    Calls Try.prog 19 #[.pointer (some ⟨t, 0, none⟩), .agg #[.int .u64 h.term, .int .i64 h.vote], .slice ao l.length cap] w (StoreEnd (Sto.saveE M n s h l) (Sto.saveM M n s h l) (Sto.saveS M n s h l) base t g d mb w) := by
  have hS0 := hS
  obtain ⟨⟨t0, v0⟩, ⟨si, st, sc, sd⟩, es⟩ := s
  obtain ⟨ht, hv⟩ := h
  obtain ⟨hsh, hss, v, hB, hE⟩ := hS
  obtain ⟨hh1, hh2⟩ := hh
  simp only at hsh hss hB hE hse hh1 hh2
  obtain ⟨ao0, cap0, rfl⟩ := hE.shape
  obtain ⟨hin, -, -⟩ := hE.read (by omega)
  have hgd := hg.apart hd
  have htd := hS0.apartM hd
  have htg := hS0.apart hg (by decide)
  have htl := hS0.lt
  have HS0 := Lib.hid hS0
  have HD0 := Lib.hid hd
  have HG0 := Lib.hid hg
  clear hS0 hd hg
  have hbh := Blk.made w #[.int .u64 ht, .int .i64 hv] 37
  have hn := (Only.refl NoBlock w).alloc (Obj.cells #[.int .u64 ht, .int .i64 hv] 37)
  have hz1 : (w.alloc (Obj.cells #[.int .u64 ht, .int .i64 hv] 37)).heap.size = w.heap.size + 1 := by simp
  go_enter Try.func19, Try.ntmps19
  go_upto_region 1 with fail
  generalize w.alloc (Obj.cells #[.int .u64 ht, .int .i64 hv] 37) = w1 at hbh hn hz1 ⊢
  have hB1 := hB.keeps hn (fun h => h)
  have c1 : w1.cell? ⟨t, 1, none⟩ = some (.int .u64 t0) := by rw [hB1.cell]; rfl
  have c2 : w1.cell? ⟨t, 2, none⟩ = some (.int .i64 v0) := by rw [hB1.cell]; rfl
  have c3 : w1.cell? ⟨t, 3, none⟩ = some (.int .u64 si) := by rw [hB1.cell]; rfl
  have c4 : w1.cell? ⟨t, 4, none⟩ = some (.int .u64 st) := by rw [hB1.cell]; rfl
  have c5 : w1.cell? ⟨t, 5, none⟩ = some (.int .u64 sc) := by rw [hB1.cell]; rfl
  have c6 : w1.cell? ⟨t, 6, none⟩ = some (.string sd) := by rw [hB1.cell]; rfl
  have c7 : w1.cell? ⟨t, 7, none⟩ = some (.slice ao0 es.length cap0) := by rw [hB1.cell]; rfl
  have hin1 := hin.keeps hn (fun _ _ h => h)
  go_wp2_with fail
  refine (copied_as w1 t0 v0 si st sc sd ao0 cap0 es hin1 (by omega)).mono ?_
  rintro e w2 ⟨v2, rfl, hE2, hO2⟩
  obtain ⟨ao2, cap2, rfl⟩ := hE2.shape
  have hb2 := hbh.keeps hO2 (fun h => h)
  have hn2 := hn.trans hO2
  have hz2 := hO2.size
  clear hB1 c1 c2 c3 c4 c5 c6 c7 hin1 hbh hn hO2 hin hB hE
  go_upto_region 4 with fail
  have hbS := Blk.made w2 #[.int .u64 t0, .int .i64 v0, .int .u64 si, .int .u64 st, .int .u64 sc, .string sd, .slice ao2 es.length cap2] 42
  have hA := (Only.refl NoBlock w2).alloc (Obj.cells #[.int .u64 t0, .int .i64 v0, .int .u64 si, .int .u64 st, .int .u64 sc, .string sd, .slice ao2 es.length cap2] 42)
  have hE3 := (hE2.keeps hA (fun _ _ h => h)).lower (b' := w.heap.size) (by omega)
  have hb3 := hb2.keeps hA (fun h => h)
  have hn3 := hn2.trans hA
  have hBS : w.heap.size < w2.heap.size := hb2.lt
  generalize w2.heap.size = B at hbS hA hBS ⊢
  generalize w2.alloc (Obj.cells #[.int .u64 t0, .int .i64 v0, .int .u64 si, .int .u64 st, .int .u64 sc, .string sd, .slice ao2 es.length cap2] 42) = w3 at hbS hA hE3 hb3 hn3 ⊢
  clear hE2 hb2 hn2 hA
  have hV3 : StV w3 w.heap.size B ⟨⟨t0, v0⟩, ⟨si, st, sc, sd⟩, es⟩ (.slice ao2 es.length cap2) := ⟨Nat.le_of_lt hBS, hsh, hss, hbS, hE3⟩
  have c0 : w3.cell? ⟨B, 0, none⟩ = some (.int .u64 t0) := by rw [hbS.cell]; rfl
  have c1 : w3.cell? ⟨B, 1, none⟩ = some (.int .i64 v0) := by rw [hbS.cell]; rfl
  have x0 : w3.cell? ⟨w.heap.size, 0, none⟩ = some (.int .u64 ht) := by rw [hb3.cell]; rfl
  have x1 : w3.cell? ⟨w.heap.size, 1, none⟩ = some (.int .i64 hv) := by rw [hb3.cell]; rfl
  have HQ : RowKit.Hid (Sto.out0 ⟨⟨t0, v0⟩, ⟨si, st, sc, sd⟩, es⟩ ⟨ht, hv⟩ = if decide (ht = t0 ∧ hv = v0) = true then [] else [Sto.hardB ⟨ht, hv⟩]) := Lib.hid (by unfold Sto.out0; simp only [decide_eq_true_eq])
  generalize hqd : decide (ht = t0 ∧ hv = v0) = q at HQ
  have HQD := Lib.hid hqd
  clear hqd
  go_upto_if 26 with (first
    | (refine wpList_neq_hard w3 rfl _ _ rfl ht t0 hv v0 rfl rfl ?_; rw [HQD.out]; simp only [Act.put, List.setIfInBounds_toArray, List.set_cons_zero, List.set_cons_succ]))
  go_cut [8] (fun v8 wx => ∃ X, Strs wx w.heap.size v8 X ∧ RowKit.Hid (X = Sto.out0 ⟨⟨t0, v0⟩, ⟨si, st, sc, sd⟩, es⟩ ⟨ht, hv⟩) ∧ X.length ≤ 1 ∧ StV wx w.heap.size B ⟨⟨t0, v0⟩, ⟨si, st, sc, sd⟩, es⟩ (.slice ao2 es.length cap2) ∧ Only NoBlock w wx)
  case first =>
    cases q with
    | true =>
      rw [if_pos rfl] at HQ
      go_wp2_with fail
      go_meet
      exact ⟨[], Strs.nil _ _, Lib.hid HQ.out.symm, by simp, hV3, hn3⟩
    | false =>
      rw [if_neg (by decide)] at HQ
      go_wp2_with fail
      refine (hardrec_at w3 ht hv hh1 (wf_both hh2).1 (wf_both hh2).2).mono ?_
      rintro e w4 ⟨rfl, hO4⟩
      have hV4 := hV3.keeps hO4 (fun h => h) (fun _ _ h => h)
      have hn4 := hn3.trans hO4
      have hz4 := hn4.size
      go_wp2_with (first
        | (at_builtin; refine wpList_append_str _ rfl _ _ rfl w.heap.size (.slice none 0 0) [] (textOf (Rc.hard ⟨ht, hv⟩)) ⟨w4.heap.size, 0, none⟩ 1 rfl (Strs.nil _ _) rfl (cell_str _ _ _ _ rfl) (by decide) (by simp; omega) ?_; intro v5 w5 hs5 hg5))
      go_meet
      have hA4 := (Only.refl NoBlock w4).alloc (Obj.cells #[.string (textOf (Rc.hard ⟨ht, hv⟩))] 9)
      refine ⟨_, hs5, Lib.hid HQ.out.symm, by simp, (hV4.keeps hA4 (fun h => h) (fun _ _ h => h)).grown (Strs.nil _ w.heap.size) hg5, (hn4.trans hA4).grown hg5 (fun k hk => by cases hk)⟩
  case rest =>
    obtain ⟨X, hX, HX, hXl, hV4, hn4⟩ := hcut
    clear c0 c1 x0 x1 hV3 hbS hb3 hE3 hn3 hz2 HQ
    rename_i v8 wc
    go_upto_if 34 with (fail)
    go_cut [8] (fun v8 wx => ∃ Y, Strs wx w.heap.size v8 (X ++ Y) ∧ RowKit.Hid (Y = Sto.out1 ⟨⟨t0, v0⟩, ⟨si, st, sc, sd⟩, es⟩ l) ∧ Y.length ≤ 1 ∧ StV wx w.heap.size B ⟨⟨t0, v0⟩, ⟨si, st, sc, sd⟩, es⟩ (.slice ao2 es.length cap2) ∧ Only NoBlock w wx)
    case first =>
      by_cases hl0 : 0 < l.length
      · obtain ⟨bb, off, rfl, e0, e1, -, -⟩ := (hl.keeps hn4 (fun _ _ h => h)).cell 0 hl0
        simp only [Nat.zero_mul, Nat.add_zero, Nat.zero_add] at e0 e1
        have ho1 : Sto.out1 ⟨⟨t0, v0⟩, ⟨si, st, sc, sd⟩, es⟩ l = if (l.getD 0 Ent.zero).index ≤ Rl.lastI ⟨si, st, sc, sd⟩ es then [Sto.cutB (l.getD 0 Ent.zero).index] else [] := by
          unfold Sto.out1; simp only [hl0, true_and]
        have hyw : (l.getD 0 Ent.zero).index < 18446744073709551616 := (hl.at_wf hl0).index
        have HO1 := Lib.hid ho1
        clear ho1
        generalize hyy : (l.getD 0 Ent.zero).index = y at e1 HO1 hyw
        have HYY := Lib.hid hyy
        clear hyy
        generalize (l.getD 0 Ent.zero).term = yt at e0
        have hin4 := (hV4.row.read (by omega)).1
        have hB4 := hV4.blk
        simp only [stCells] at hB4
        have c0 : wc.cell? ⟨B, 0, none⟩ = some (.int .u64 t0) := by rw [hB4.cell]; rfl
        have c1 : wc.cell? ⟨B, 1, none⟩ = some (.int .i64 v0) := by rw [hB4.cell]; rfl
        have c2 : wc.cell? ⟨B, 2, none⟩ = some (.int .u64 si) := by rw [hB4.cell]; rfl
        have c3 : wc.cell? ⟨B, 3, none⟩ = some (.int .u64 st) := by rw [hB4.cell]; rfl
        have c4 : wc.cell? ⟨B, 4, none⟩ = some (.int .u64 sc) := by rw [hB4.cell]; rfl
        have c5 : wc.cell? ⟨B, 5, none⟩ = some (.string sd) := by rw [hB4.cell]; rfl
        have c6 : wc.cell? ⟨B, 6, none⟩ = some (.slice ao2 es.length cap2) := by rw [hB4.cell]; rfl
        go_wp2_with fail
        refine (last_at wc ⟨t0, v0⟩ ⟨si, st, sc, sd⟩ ao2 cap2 es hin4 (by omega)).mono ?_
        rintro e w5 ⟨rfl, hO5⟩
        have hV5 := hV4.keeps hO5 (fun h => h) (fun _ _ h => h)
        have hn5 := hn4.trans hO5
        have hX5 := hX.keeps hO5 (fun _ _ h => h)
        have hz5 := hn5.size
        obtain ⟨b', off', he', f0, f1, -, -⟩ := (hl.keeps hn5 (fun _ _ h => h)).cell 0 hl0
        cases he'
        simp only [Nat.zero_mul, Nat.add_zero, Nat.zero_add] at f1
        rw [HYY.out] at f1
        clear e0 e1 f0
        clear c0 c1 c2 c3 c4 c5 c6 hB4 hin4 hV4 hn4 hX
        generalize Rl.lastI ⟨si, st, sc, sd⟩ es = li at HO1 ⊢
        generalize Rl.lastT ⟨si, st, sc, sd⟩ es = lt
        by_cases hle5 : y ≤ li
        · have d1 : decide (y ≤ li) = true := by simpa using hle5
          rw [if_pos hle5] at HO1
          clear hle5
          go_wp2_with fail
          refine (cutrec_at w5 y hyw).mono ?_
          rintro e w6 ⟨rfl, hO6⟩
          have hV6 := hV5.keeps hO6 (fun h => h) (fun _ _ h => h)
          have hn6 := hn5.trans hO6
          have hX6 := hX5.keeps hO6 (fun _ _ h => h)
          have hz6 := hn6.size
          have hA6 := (Only.refl NoBlock w6).alloc (Obj.cells #[.string (textOf (Rc.cut y))] 9)
          go_wp2_with (first
            | (at_builtin; refine wpList_append_str _ rfl _ _ rfl w.heap.size _ X (textOf (Rc.cut y)) ⟨w6.heap.size, 0, none⟩ 1 rfl (hX6.keeps hA6 (fun _ _ h => h)) rfl (cell_str _ _ _ _ rfl) (by omega) (by simp; omega) ?_; intro v7 w7 hs7 hg7))
          go_meet
          exact ⟨_, hs7, Lib.hid HO1.out.symm, by simp, (hV6.keeps hA6 (fun h => h) (fun _ _ h => h)).grown (hX6.keeps hA6 (fun _ _ h => h)) hg7, (hn6.trans hA6).grown hg7 (fun k hk hl => absurd (World.ownsRow.lt hX6 k hk).1 (by omega))⟩
        · have d1 : decide (y ≤ li) = false := by simpa using hle5
          rw [if_neg hle5] at HO1
          clear hle5
          go_wp2_with fail
          go_meet
          exact ⟨[], by rw [List.append_nil]; exact hX5, Lib.hid HO1.out.symm, by simp, hV5, hn5⟩
      · have HO1 : RowKit.Hid (Sto.out1 ⟨⟨t0, v0⟩, ⟨si, st, sc, sd⟩, es⟩ l = []) := Lib.hid (by unfold Sto.out1; rw [if_neg (fun h => hl0 h.1)])
        go_wp2_with fail
        go_meet
        exact ⟨[], by rw [List.append_nil]; exact hX, Lib.hid HO1.out.symm, by simp, hV4, hn4⟩
    case rest =>
      obtain ⟨Y, hY, HY, hYl, hV5, hn5⟩ := hcut
      clear hX hV4 hn4
      rename_i v8b wc2
      have HXY : RowKit.Hid (Sto.out ⟨⟨t0, v0⟩, ⟨si, st, sc, sd⟩, es⟩ ⟨ht, hv⟩ l = X ++ Y ++ l.map Sto.entB) := Lib.hid (by unfold Sto.out; rw [HX.out, HY.out])
      go_wp2_with fail
      go_loopw [8, 56] (fun u8 u56 wr => ∃ k : Nat, k ≤ l.length ∧ u56 = .int .i64 k ∧ Strs wr w.heap.size u8 (X ++ Y ++ (l.take k).map Sto.entB) ∧ StV wr w.heap.size B ⟨⟨t0, v0⟩, ⟨si, st, sc, sd⟩, es⟩ (.slice ao2 es.length cap2) ∧ Only NoBlock w wr) (fun _ u56 _ => l.length - (intOf u56).toNat)
      case atStart => exact ⟨0, by omega, rfl, by simpa using hY, hV5, hn5⟩
      case round =>
        clear hY hV5 hn5
        obtain ⟨k, hk, rfl, hR, hV6, hn6⟩ := hrel
        by_cases hlt : k < l.length
        · obtain ⟨bb, off, rfl, e0, e1, e2, e3⟩ := (hl.keeps hn6 (fun _ _ h => h)).cell k hlt
          have hwf := hl.at_wf hlt
          have hdk : (l.getD k Ent.zero).data.size ≤ 1000000000 := by
            rw [List.getD_eq_getElem?_getD, List.getElem?_eq_getElem hlt]
            exact hdat _ (List.getElem_mem hlt)
          have hts : (l.take (k + 1)).map Sto.entB = (l.take k).map Sto.entB ++ [Sto.entB (l.getD k Ent.zero)] := by
            rw [List.take_add_one, List.getElem?_eq_getElem hlt, List.getD_eq_getElem?_getD, List.getElem?_eq_getElem hlt, List.map_append]; rfl
          have HTS := Lib.hid hts
          have hlk : (X ++ Y ++ (l.take k).map Sto.entB).length ≤ 2 + k := by simp; omega
          clear hts
          generalize l.getD k Ent.zero = en at e0 e1 e2 e3 hwf hdk HTS
          obtain ⟨et, ei, ek, ed⟩ := en
          obtain ⟨hw1, hw2, hw3, hw4⟩ := hwf
          simp only at e0 e1 e2 e3 hw1 hw2 hw3 hw4 hdk
          have hz6 := hn6.size
          go_wp2_with fail
          have hAe := (Only.refl NoBlock wr).alloc (Obj.cells #[.int .u64 et, .int .u64 ei, .int .i64 ek, .string ed] 77)
          generalize wr.alloc (Obj.cells #[.int .u64 et, .int .u64 ei, .int .i64 ek, .string ed] 77) = wE at hAe ⊢
          refine (entryrec_at wE et ei ek ed hw1 hw2 (by omega)).mono ?_
          rintro e w7 ⟨rfl, hO7⟩
          have hO67 := hAe.trans hO7
          have hV7 := hV6.keeps hO67 (fun h => h) (fun _ _ h => h)
          have hn7 := hn6.trans hO67
          have hR7 := hR.keeps hO67 (fun _ _ h => h)
          have hz7 := hn7.size
          have hA7 := (Only.refl NoBlock w7).alloc (Obj.cells #[.string (textOf (Rc.entry ⟨et, ei, ek, ed⟩))] 9)
          clear hR hV6 hn6 hO7 hAe hz6 e0 e1 e2 e3
          go_wp2_with (first
            | (at_builtin; refine wpList_append_str _ rfl _ _ rfl w.heap.size _ (X ++ Y ++ (l.take k).map Sto.entB) (textOf (Rc.entry ⟨et, ei, ek, ed⟩)) ⟨w7.heap.size, 0, none⟩ 1 rfl (hR7.keeps hA7 (fun _ _ h => h)) rfl (cell_str _ _ _ _ rfl) (by omega) (by simp; omega) ?_; intro v8 w8 hs8 hg8))
          go_roundw
          case rel =>
            refine ⟨k + 1, by omega, by go_num, ?_, (hV7.keeps hA7 (fun h => h) (fun _ _ h => h)).grown (hR7.keeps hA7 (fun _ _ h => h)) hg8, (hn7.trans hA7).grown hg8 (fun k hk hl => absurd (World.ownsRow.lt hR7 k hk).1 (by omega))⟩
            rw [HTS.out, ← List.append_assoc]
            exact hs8
          case measure => simp [intOf]; omega
        · obtain rfl : k = l.length := by omega
          rw [List.take_length, ← HXY.out] at hR
          have hol : (Sto.out ⟨⟨t0, v0⟩, ⟨si, st, sc, sd⟩, es⟩ ⟨ht, hv⟩ l).length ≤ 2 + l.length := by rw [HXY.out]; simp; omega
          have HSV : RowKit.Hid (Sto.saved ⟨⟨t0, v0⟩, ⟨si, st, sc, sd⟩, es⟩ ⟨ht, hv⟩ l = Sto.rightO (Sto.said ⟨⟨t0, v0⟩, ⟨si, st, sc, sd⟩, es⟩ (Sto.out ⟨⟨t0, v0⟩, ⟨si, st, sc, sd⟩, es⟩ ⟨ht, hv⟩ l))) := Lib.hid rfl
          have HSE : RowKit.Hid (Sto.saveE M n ⟨⟨t0, v0⟩, ⟨si, st, sc, sd⟩, es⟩ ⟨ht, hv⟩ l = match Sto.saved ⟨⟨t0, v0⟩, ⟨si, st, sc, sd⟩, es⟩ ⟨ht, hv⟩ l with | none => 1 | some _ => if (Sto.out ⟨⟨t0, v0⟩, ⟨si, st, sc, sd⟩, es⟩ ⟨ht, hv⟩ l).length = 0 then 0 else Wal.appE M n (Sto.out ⟨⟨t0, v0⟩, ⟨si, st, sc, sd⟩, es⟩ ⟨ht, hv⟩ l)) := Lib.hid rfl
          have HSM : RowKit.Hid (Sto.saveM M n ⟨⟨t0, v0⟩, ⟨si, st, sc, sd⟩, es⟩ ⟨ht, hv⟩ l = match Sto.saved ⟨⟨t0, v0⟩, ⟨si, st, sc, sd⟩, es⟩ ⟨ht, hv⟩ l with | none => M | some _ => if (Sto.out ⟨⟨t0, v0⟩, ⟨si, st, sc, sd⟩, es⟩ ⟨ht, hv⟩ l).length = 0 then M else Wal.app M n (Sto.out ⟨⟨t0, v0⟩, ⟨si, st, sc, sd⟩, es⟩ ⟨ht, hv⟩ l)) := Lib.hid rfl
          have HSS : RowKit.Hid (Sto.saveS M n ⟨⟨t0, v0⟩, ⟨si, st, sc, sd⟩, es⟩ ⟨ht, hv⟩ l = match Sto.saved ⟨⟨t0, v0⟩, ⟨si, st, sc, sd⟩, es⟩ ⟨ht, hv⟩ l with | none => ⟨⟨t0, v0⟩, ⟨si, st, sc, sd⟩, es⟩ | some s' => if (Sto.out ⟨⟨t0, v0⟩, ⟨si, st, sc, sd⟩, es⟩ ⟨ht, hv⟩ l).length = 0 then ⟨⟨t0, v0⟩, ⟨si, st, sc, sd⟩, es⟩ else if Wal.appE M n (Sto.out ⟨⟨t0, v0⟩, ⟨si, st, sc, sd⟩, es⟩ ⟨ht, hv⟩ l) = 0 then s' else ⟨⟨t0, v0⟩, ⟨si, st, sc, sd⟩, es⟩) := Lib.hid rfl
          have hou : ∀ b ∈ Sto.out ⟨⟨t0, v0⟩, ⟨si, st, sc, sd⟩, es⟩ ⟨ht, hv⟩ l, b.size ≤ 1000000000 := by
            intro b hb
            obtain ⟨i, hi, rfl⟩ := List.mem_iff_getElem.1 hb
            have := Wal.frame_in hi
            rw [List.getD_eq_getElem?_getD, List.getElem?_eq_getElem hi] at this
            exact Nat.le_trans this hsz
          generalize Sto.saved ⟨⟨t0, v0⟩, ⟨si, st, sc, sd⟩, es⟩ ⟨ht, hv⟩ l = sv at HSE HSM HSS HSV
          generalize Sto.out ⟨⟨t0, v0⟩, ⟨si, st, sc, sd⟩, es⟩ ⟨ht, hv⟩ l = Z at HSE HSM HSS HSV hR hol hou hsz
          clear HXY HX HY
          obtain ⟨az, cz, rfl⟩ := hR.shape
          go_wp2_with fail
          go_loopw [68] (fun u68 wr => ∃ (k : Nat) (s' : St) (v' : Value), k ≤ Z.length ∧ u68 = .int .i64 k ∧ RowKit.Hid (Sto.said ⟨⟨t0, v0⟩, ⟨si, st, sc, sd⟩, es⟩ (Z.take k) = some s') ∧ StV wr w.heap.size B s' v' ∧ Only NoBlock w wr ∧ Strs wr w.heap.size (.slice az Z.length cz) Z) (fun u68 _ => Z.length - (intOf u68).toNat)
          case atStart => exact ⟨0, ⟨⟨t0, v0⟩, ⟨si, st, sc, sd⟩, es⟩, _, by omega, rfl, Lib.hid rfl, hV6, hn6, hR⟩
          case round =>
            clear hR hV6 hn6
            obtain ⟨k, s', v', hk2, rfl, HSD, hV6, hn6, hR⟩ := hrel
            have hrd := hR.read.1
            have hsl := Sto.said_len _ _ _ HSD.out
            have hel : s'.es.length ≤ 3000000000 := by rw [List.length_take] at hsl; simp only at hsl; omega
            by_cases hlt2 : k < Z.length
            · obtain ⟨bz, oz, rfl, cz0⟩ := hrd.at hlt2
              have hbk : (Z.getD k ByteArray.empty).size ≤ 1000000000000 := by
                rw [List.getD_eq_getElem?_getD, List.getElem?_eq_getElem hlt2]
                exact Nat.le_trans (hou _ (List.getElem_mem hlt2)) (by decide)
              have hts := Wal.take_snoc hlt2
              have hsn := Sto.said_snoc (Z.take k) ⟨⟨t0, v0⟩, ⟨si, st, sc, sd⟩, es⟩ (Z.getD k ByteArray.empty)
              rw [← hts, HSD.out] at hsn
              have HSN := Lib.hid hsn
              clear hsn hts hsl
              generalize Z.getD k ByteArray.empty = bk at cz0 hbk HSN
              go_wp2_with fail
              refine (take_row wr w.heap.size B s' v' hV6 (by omega) bk hbk).mono ?_
              rintro e w9 ⟨hO9, hE9⟩
              have hz9 := hn6.size
              have hn9 : Only NoBlock w w9 := hn6.andThen hO9 (fun j hj e => e.elim (fun e => absurd (e ▸ hj) (by omega)) (fun e => absurd (World.ownsRow.lt hV6.row.1 j e).1 (by omega)))
              have hR9 : Strs w9 w.heap.size (.slice (some ⟨bz, oz, none⟩) Z.length cz) Z := hR.keeps hO9 (fun j hj e => e.elim (fun e => hR.apart hV6.blk (by decide) (by rw [hj, e])) (fun e => hR.apartE hV6.row j hj e))
              rcases hE9 with ⟨s2, v2', ht2, rfl, hV9, -⟩ | ⟨ht2, rfl⟩
              · have HS2 : RowKit.Hid (Sto.said ⟨⟨t0, v0⟩, ⟨si, st, sc, sd⟩, es⟩ (Z.take (k + 1)) = some s2) := Lib.hid (HSN.out.trans ht2)
                clear ht2 HSN hO9 hV6 hn6 hR cz0 hrd
                go_wp2_with fail
                go_roundw
                case rel => exact ⟨k + 1, s2, v2', by omega, by go_num, HS2, hV9, hn9, hR9⟩
                case measure => simp [intOf]; omega
              · have hno : Sto.said ⟨⟨t0, v0⟩, ⟨si, st, sc, sd⟩, es⟩ Z = none := Sto.said_none Z (k + 1) _ (HSN.out.trans ht2)
                have hsv : sv = none := by rw [HSV.out, hno]; rfl
                have HV2 := Lib.hid hsv
                clear ht2 HSN hno hsv
                go_wp2_with fail
                go_ret
                refine ⟨by rw [HSE.out, HV2.out]; rfl, by rw [HSM.out, HV2.out]; exact HD0.out.keeps hn9 (fun h => h) (fun h => h), by rw [HSS.out, HV2.out]; exact HS0.out.keeps hn9 (fun h => h) (fun _ _ h => h), hn9.of_no⟩
            · obtain rfl : k = Z.length := by omega
              rw [List.take_length] at HSD
              obtain ⟨⟨ht', hv'⟩, ⟨si', st', sc', sd'⟩, es'⟩ := s'
              obtain ⟨-, hh', hs', hB6, hE6⟩ := hV6
              simp only [stCells] at hh' hs' hB6 hE6 hel
              obtain ⟨ao6, cap6, rfl⟩ := hE6.shape
              obtain ⟨hin6, -, -⟩ := hE6.read (by omega)
              have c0 : wr.cell? ⟨B, 0, none⟩ = some (.int .u64 ht') := by rw [hB6.cell]; rfl
              have c1 : wr.cell? ⟨B, 1, none⟩ = some (.int .i64 hv') := by rw [hB6.cell]; rfl
              have c2 : wr.cell? ⟨B, 2, none⟩ = some (.int .u64 si') := by rw [hB6.cell]; rfl
              have c3 : wr.cell? ⟨B, 3, none⟩ = some (.int .u64 st') := by rw [hB6.cell]; rfl
              have c4 : wr.cell? ⟨B, 4, none⟩ = some (.int .u64 sc') := by rw [hB6.cell]; rfl
              have c5 : wr.cell? ⟨B, 5, none⟩ = some (.string sd') := by rw [hB6.cell]; rfl
              have c6 : wr.cell? ⟨B, 6, none⟩ = some (.slice ao6 es'.length cap6) := by rw [hB6.cell]; rfl
              go_wp2_with fail
              refine (right_at wr ⟨ht', hv'⟩ hh' ⟨si', st', sc', sd'⟩ hs' ao6 cap6 es' hin6 (by omega)).mono ?_
              rintro e w7 ⟨rfl, hO7⟩
              have hn7 := hn6.trans hO7
              have hR7 := hR.keeps hO7 (fun _ _ h => h)
              have hB7 := hB6.keeps hO7 (fun h => h)
              have hE7 := hE6.keeps hO7 (fun _ _ h => h)
              clear c0 c1 c2 c3 c4 c5 c6 hR hrd hB6 hE6 hin6 hn6 hO7
              cases hrb : rightB ⟨ht', hv'⟩ ⟨si', st', sc', sd'⟩ es' with
              | false =>
                have hsv : sv = none := by rw [HSV.out, HSD.out]; unfold Sto.rightO; simp only; rw [if_neg (by rw [hrb]; decide)]
                have HV2 := Lib.hid hsv
                clear hrb hsv
                go_wp2_with fail
                go_ret
                refine ⟨by rw [HSE.out, HV2.out]; rfl, by rw [HSM.out, HV2.out]; exact HD0.out.keeps hn7 (fun h => h) (fun h => h), by rw [HSS.out, HV2.out]; exact HS0.out.keeps hn7 (fun h => h) (fun _ _ h => h), hn7.of_no⟩
              | true =>
                have hsv : sv = some ⟨⟨ht', hv'⟩, ⟨si', st', sc', sd'⟩, es'⟩ := by rw [HSV.out, HSD.out]; unfold Sto.rightO; simp only; rw [if_pos hrb]
                subst hsv
                simp only at HSE HSM HSS
                clear hrb HSV HSD
                by_cases hz : Z.length = 0
                · rw [if_pos hz] at HSE HSM HSS
                  go_wp2_with fail
                  go_ret
                  refine ⟨by rw [HSE.out]; rfl, by rw [HSM.out]; exact HD0.out.keeps hn7 (fun h => h) (fun h => h), by rw [HSS.out]; exact HS0.out.keeps hn7 (fun h => h) (fun _ _ h => h), hn7.of_no⟩
                · rw [if_neg hz] at HSE HSM HSS
                  have hg7 : LogAt w7 g d n := Blk.keeps HG0.out hn7 (fun h => h)
                  have hd7 := HD0.out.keeps hn7 (fun h => h) (fun h => h)
                  obtain ⟨vS, hBt, hEt⟩ := HS0.out.ex
                  have hBt7 := hBt.keeps hn7 (fun h => h)
                  have k0 : w7.cell? ⟨t, 0, none⟩ = some (.pointer (some ⟨g, 0, none⟩)) := by rw [hBt7.cell]; rfl
                  have hzi := hR7.read.1
                  go_wp2_with fail
                  refine (log_append_at w7 g d mb M n az cz Z hd7 hg7 hw hzi hsz).mono ?_
                  rintro e w8 ⟨rfl, hd8, hO8⟩
                  have hdl := HD0.out.blk.lt
                  have hml := HD0.out.files.lt
                  have hz7 := hn7.size
                  have hn8 : Only (fun k => k = d ∨ k = mb) w w8 := hn7.of_no.trans hO8
                  have hBt8 := hBt7.keeps hO8 (fun e => e.elim htd.1 htd.2)
                  by_cases hap : Wal.appE M n Z = 0
                  · rw [if_pos hap] at HSS
                    rw [hap] at HSE ⊢
                    have hB8 := hB7.keeps hO8 (fun e => by omega)
                    have hE8 := hE7.keeps hO8 (fun k hk e => by have := (World.ownsRow.lt hE7.1 k hk).1; omega)
                    clear hap hBt hBt7 k0 hg7 hd7 hB7 hE7 hO8 hR7
                    have c0 : w8.cell? ⟨B, 0, none⟩ = some (.int .u64 ht') := by rw [hB8.cell]; rfl
                    have c1 : w8.cell? ⟨B, 1, none⟩ = some (.int .i64 hv') := by rw [hB8.cell]; rfl
                    have c2 : w8.cell? ⟨B, 2, none⟩ = some (.int .u64 si') := by rw [hB8.cell]; rfl
                    have c3 : w8.cell? ⟨B, 3, none⟩ = some (.int .u64 st') := by rw [hB8.cell]; rfl
                    have c4 : w8.cell? ⟨B, 4, none⟩ = some (.int .u64 sc') := by rw [hB8.cell]; rfl
                    have c5 : w8.cell? ⟨B, 5, none⟩ = some (.string sd') := by rw [hB8.cell]; rfl
                    have c6 : w8.cell? ⟨B, 6, none⟩ = some (.slice ao6 es'.length cap6) := by rw [hB8.cell]; rfl
                    have k1 : w8.cell? ⟨t, 1, none⟩ = some (.int .u64 t0) := by rw [hBt8.cell]; rfl
                    have f1 := hBt8.free 1
                    have k2 : w8.cell? ⟨t, 2, none⟩ = some (.int .i64 v0) := by rw [hBt8.cell]; rfl
                    have f2 := hBt8.free 2
                    have k3 : w8.cell? ⟨t, 3, none⟩ = some (.int .u64 si) := by rw [hBt8.cell]; rfl
                    have f3 := hBt8.free 3
                    have k4 : w8.cell? ⟨t, 4, none⟩ = some (.int .u64 st) := by rw [hBt8.cell]; rfl
                    have f4 := hBt8.free 4
                    have k5 : w8.cell? ⟨t, 5, none⟩ = some (.int .u64 sc) := by rw [hBt8.cell]; rfl
                    have f5 := hBt8.free 5
                    have k6 : w8.cell? ⟨t, 6, none⟩ = some (.string sd) := by rw [hBt8.cell]; rfl
                    have f6 := hBt8.free 6
                    have k7 : w8.cell? ⟨t, 7, none⟩ = some vS := by rw [hBt8.cell]; rfl
                    have f7 := hBt8.free 7
                    go_wp2_with fail
                    have hz : Only (fun k => k = t) w8 ((((((((w8.setCell ⟨t, 1, none⟩ (.int .u64 ht')).setCell ⟨t, 2, none⟩ (.int .i64 hv')).setCell ⟨t, 3, none⟩ (.int .u64 si')).setCell ⟨t, 4, none⟩ (.int .u64 st')).setCell ⟨t, 5, none⟩ (.int .u64 sc')).setCell ⟨t, 6, none⟩ (.string sd')).setCell ⟨t, 7, none⟩ (.slice ao6 es'.length cap6))) := ((((((((Only.refl (fun k => k = t) w8).setCell (p := ⟨t, 1, none⟩) (fun _ => rfl) (.int .u64 ht')).setCell (p := ⟨t, 2, none⟩) (fun _ => rfl) (.int .i64 hv')).setCell (p := ⟨t, 3, none⟩) (fun _ => rfl) (.int .u64 si')).setCell (p := ⟨t, 4, none⟩) (fun _ => rfl) (.int .u64 st')).setCell (p := ⟨t, 5, none⟩) (fun _ => rfl) (.int .u64 sc')).setCell (p := ⟨t, 6, none⟩) (fun _ => rfl) (.string sd')).setCell (p := ⟨t, 7, none⟩) (fun _ => rfl) (.slice ao6 es'.length cap6))
                    have hBz : Blk ((((((((w8.setCell ⟨t, 1, none⟩ (.int .u64 ht')).setCell ⟨t, 2, none⟩ (.int .i64 hv')).setCell ⟨t, 3, none⟩ (.int .u64 si')).setCell ⟨t, 4, none⟩ (.int .u64 st')).setCell ⟨t, 5, none⟩ (.int .u64 sc')).setCell ⟨t, 6, none⟩ (.string sd')).setCell ⟨t, 7, none⟩ (.slice ao6 es'.length cap6))) t #[.pointer (some ⟨g, 0, none⟩), .int .u64 ht', .int .i64 hv', .int .u64 si', .int .u64 st', .int .u64 sc', .string sd', .slice ao6 es'.length cap6] 100 := (((((((hBt8.setCell 1 (.int .u64 ht')).setCell 2 (.int .i64 hv')).setCell 3 (.int .u64 si')).setCell 4 (.int .u64 st')).setCell 5 (.int .u64 sc')).setCell 6 (.string sd')).setCell 7 (.slice ao6 es'.length cap6))
                    have hEz := hE8.keeps hz (fun k hk e => by have := (World.ownsRow.lt hE8.1 k hk).1; have e' : k = t := e; omega)
                    have hDz := hd8.keeps hz (fun e => htd.1 e.symm) (fun e => htd.2 e.symm)
                    go_ret
                    exact ⟨by rw [HSE.out]; rfl, by rw [HSM.out]; exact hDz, by rw [HSS.out]; exact ⟨hh', hs', _, hBz, hEz.lower hbase⟩, (hn8.mono (fun k e => e.elim .inl (fun e => .inr (.inl e)))).andThen hz (fun k _ e => .inr (.inr e))⟩
                  · rw [if_neg hap] at HSS
                    have hab : (Wal.appE M n Z != 0) = true := by simpa using hap
                    have HAP := Lib.hid hap
                    clear hap
                    go_wp2_with fail
                    go_ret
                    exact ⟨by rw [HSE.out]; rfl, by rw [HSM.out]; exact hd8, by rw [HSS.out]; exact (HS0.out.keeps hn7 (fun h => h) (fun _ _ h => h)).keepsD hd7 hO8, hn8.mono (fun k e => e.elim .inl (fun e => .inr (.inl e)))⟩
end Go.Proofs.Ytekmjhenhgmpgaa
