/- The statement StoreStill: its walk and its frame. -/
import Derived.Test.YtekmjhenhgmpgaaMF
import Derived.Test.YtekmjhenhgmpgaaRows
import Derived.JoinedCond
import Derived.WalkKit
import Derived.ProofKit
import Derived.OpenShut
import Derived.ShutString
import Derived.ChangeOld
import Derived.Below

/- Saving what is there already writes nothing; a vote alone writes one record: the walk of the law. -/
namespace Go.Proofs.Ytekmjhenhgmpgaa
open Go.RowKit
set_option maxRecDepth 100000

theorem run_field_hard (w : World) (a : Nat) (b : Int) (c d e : Nat) (f : ByteArray) (ao : Option Addr) (n cap : Nat) :
    (Instr.field 42 (.agg #[.int .u64 a, .int .i64 b, .int .u64 c, .int .u64 d, .int .u64 e, .string f, .slice ao n cap]) 0).run Try.prog w = .ok (.agg #[.int .u64 a, .int .i64 b]) w := by
  unfold Instr.field
  go_simp
  simp [asAgg]

set_option maxHeartbeats 8000000 in
theorem walk_Still {w : World} (ao : Option Addr) (cap : Nat) (l : List CallS) (hl : CallsS w ao l) (h : Hrd) (hh : h.Wf) :
    Calls Try.prog 4 #[.slice ao l.length cap, .agg #[.int .u64 h.term, .int .i64 h.vote]] w fun e w' => e = .returned (.bool true) ∧ Only NoBlock w w' := by
  obtain ⟨ht, hv⟩ := h
  have HH := Lib.hid hh
  clear hh
  have hbx := Blk.made w #[.int .u64 ht, .int .i64 hv] 37
  have hnx := (Only.refl NoBlock w).alloc (Obj.cells #[.int .u64 ht, .int .i64 hv] 37)
  have hlen := hl.len
  go_enter Try.func4, Try.ntmps4
  go_upto_region 1 with fail
  obtain ⟨X, hX⟩ : ∃ X, w.heap.size = X := ⟨_, rfl⟩
  have HXW := Lib.hid hX
  have hXl : X < (w.alloc (Obj.cells #[.int .u64 ht, .int .i64 hv] 37)).heap.size := by simp [hX]
  rw [hX] at hbx ⊢
  clear hX
  generalize w.alloc (Obj.cells #[.int .u64 ht, .int .i64 hv] 37) = w1 at hbx hnx hXl ⊢
  go_wp2_with fail
  refine (begun8_ok w1).mono ?_
  rintro e w2 ⟨rfl, ho2⟩
  have hb2 := hbx.keeps ho2 (fun h => h)
  have hn2 := hnx.trans ho2
  clear hbx hnx ho2 hXl
  go_wp2_with fail
  refine (light_at w2 ao cap l (hl.keeps hn2)).mono ?_
  rintro e w3 ⟨he, ho3⟩
  have hb3 := hb2.keeps ho3 (fun h => h)
  have hn3 := hn2.trans ho3
  clear hb2 hn2 ho3
  by_cases hlw : Lt.lw l ≤ 400
  · rw [decide_eq_true hlw] at he
    subst he
    go_wp2_with fail
    refine (new_ok w3 1048576 (by omega) (by omega)).mono ?_
    rintro e w4 ⟨rfl, hd4, ho4, hs4⟩
    have hb4 := hb3.keeps ho4 (fun h => h)
    have hn4 := hn3.trans ho4
    have hX3 := hb3.lt
    clear hb3 ho4
    generalize hmb : w3.heap.size = mb at hd4 hX3 hs4 ⊢
    generalize hd : mb + 1 = d at hd4 ⊢
    have hz3 := hn3.size
    have hwd : w.heap.size ≤ mb := by omega
    have hz4 : mb < w4.heap.size := by omega
    clear hn3 hs4
    go_wp2_with fail
    obtain ⟨q1, q2, q3⟩ := Sto.open_new
    refine (sopen_ok hd4 (by decide) (by omega) q1 q2 q3).mono ?_
    rintro e w5 ⟨t, g, ao5, cap5, rfl, ht5, hlog5, hst5, -, -, -, hd5, ho5⟩
    clear q1 q2 q3
    have hn5 : Only NoBlock w w5 := hn4.andThen ho5 (by rintro i hi (e | e) <;> omega)
    have hb5 := hb4.keeps ho5 (by rintro (e | e) <;> omega)
    have hst5' := hst5.lower (b' := mb) (by omega)
    clear hb4 hn4 ho5 hd4 hst5
    simp only [stCells, Sto.first, List.length_nil]
    go_upto_region 7 with fail
    have hA5 := (Only.refl NoBlock w5).alloc (Obj.cells #[.int .u64 0, .int .i64 (-1), .int .u64 0, .int .u64 0, .int .u64 7, .string ByteArray.empty, .slice ao5 0 cap5] 42)
    have hd6 := hd5.keeps hA5 (fun h => h) (fun h => h)
    have hl6 : LogAt _ g d 0 := Blk.keeps hlog5 hA5 (fun h => h)
    have hst6 := hst5'.keeps hA5 (fun h => h) (fun _ _ h => h)
    have hn6 := hn5.trans hA5
    have hb6 := hb5.keeps hA5 (fun h => h)
    have hI6 := Sto.Iv.start
    generalize w5.alloc (Obj.cells #[.int .u64 0, .int .i64 (-1), .int .u64 0, .int .u64 0, .int .u64 7, .string ByteArray.empty, .slice ao5 0 cap5] 42) = w6 at hd6 hl6 hst6 hn6 hb6 ⊢
    clear hA5 hb5 hn5 hd5 hlog5 hst5'
    generalize w5.heap.size = P5
    have htm : mb < t := by omega
    go_wp2_with fail
    go_loopw [38] (fun u38 wr => ∃ (k : Nat) (A : ByteArray) (s : St), k ≤ l.length ∧ u38 = .int .i64 k ∧ DiskAt wr d mb (Sto.D A) ∧ LogAt wr g d 0 ∧ StoreAt wr mb t g s ∧ Sto.Iv A s (Lt.lw (l.take k)) ∧ Only NoBlock w wr ∧ Blk wr X #[.int .u64 ht, .int .i64 hv] 37) (fun u38 _ => l.length - (intOf u38).toNat)
    case atStart => exact ⟨0, _, _, by omega, rfl, hd6, hl6, hst6, hI6, hn6, hb6⟩
    case round =>
      clear hd6 hl6 hst6 hI6 hn6 hb6
      obtain ⟨k, A, s, hk, rfl, hd7, hl7, hst7, hI7, hn7, hb7⟩ := hrel
      by_cases hlt : k < l.length
      · have hl8 := hl.keeps hn7
        obtain ⟨b, off, rfl, hc⟩ := hl8.call k hlt
        obtain ⟨c0, c1, c2, c3, c4, c5, c6, c7⟩ := hc
        have hfew := hl.few k hlt
        have hdat := hl.dat k hlt
        have hhd := hl.hard k hlt
        have hin := hl8.ents k hlt
        have hsn := Lt.lw_snoc hlt
        have htk := Sto.lw_take_le l (k + 1)
        have hcw : Lt.cw (l.getD k CallS.zero) = 1 + (l.getD k CallS.zero).es.length + (l.getD k CallS.zero).snap.data.size / 50 + Lt.es (l.getD k CallS.zero).es := rfl
        have HIN := Lib.hid hI7
        clear hl8
        generalize l.getD k CallS.zero = c at *
        obtain ⟨ca, ⟨ct, cv⟩, ⟨si, st, sc, sd⟩, ao2, cap2, es⟩ := c
        simp only at c0 c1 c2 c3 c4 c5 c6 c7 hfew hdat hhd hin hcw
        have hm : Lt.lw (l.take k) + (1 + es.length + Lt.es es) ≤ 400 := by omega
        obtain ⟨A', s', r1, r2, r3, r4, -⟩ := Sto.save_go HIN.out hhd hin.wf hm
        have ho := (Sto.out_short (s := s) hhd hin.wf (by omega)).2.1
        have hsl := HIN.out.len
        obtain ⟨rv, hrv⟩ : ∃ rv, Sto.saveE (Sto.D A) 0 s ⟨ct, cv⟩ es = rv := ⟨_, rfl⟩
        have R1 := Lib.hid hrv
        clear hrv
        have R2 := Lib.hid r2
        have R3 := Lib.hid r3
        have R4 := Lib.hid (r4.more (n := Lt.lw (l.take (k + 1))) (by omega))
        have HO : RowKit.Hid ((Wal.text (Sto.out s ⟨ct, cv⟩ es)).size ≤ 1000000000) := Lib.hid (by omega)
        have HSL : RowKit.Hid (s.es.length ≤ 1000000000) := Lib.hid (by omega)
        clear r1 r2 r3 r4 ho hsl hcw htk hsn hI7
        go_wp2_with fail
        have hAc := (Only.refl NoBlock wr).alloc (Obj.cells #[.bool ca, .int .u64 ct, .int .i64 cv, .int .u64 si, .int .u64 st, .int .u64 sc, .string sd, .slice ao2 es.length cap2] 58)
        have hd8 := hd7.keeps hAc (fun h => h) (fun h => h)
        have hl8 : LogAt _ g d 0 := Blk.keeps hl7 hAc (fun h => h)
        have hst8 := hst7.keeps hAc (fun h => h) (fun _ _ h => h)
        have hin8 := hin.keeps hAc (fun _ _ h => h)
        have hn8 := hn7.trans hAc
        have hb8 := hb7.keeps hAc (fun h => h)
        generalize wr.alloc (Obj.cells #[.bool ca, .int .u64 ct, .int .i64 cv, .int .u64 si, .int .u64 st, .int .u64 sc, .string sd, .slice ao2 es.length cap2] 58) = w8 at hd8 hl8 hst8 hin8 hn8 hb8 ⊢
        have hgd := LogAt.apart hl8 hd8
        have htg := hst8.apart hl8 (by decide)
        have hz8 := hd8.files.lt
        refine (save_as (h := ⟨ct, cv⟩) hhd hd8 (by decide) hl8 hst8 (by omega) hin8 rfl HSL.out (by omega) (fun e he => Nat.le_trans (hdat e he) (by decide)) HO.out R1.out R2.out R3.out).mono ?_
        rintro e w9 ⟨rfl, hd9, hst9, ho9⟩
        have hn9 : Only NoBlock w w9 := hn8.andThen ho9 (by rintro i hi (e | e | e) <;> omega)
        have hb9 := hb8.keeps ho9 (by rintro (e | e | e) <;> omega)
        have hl9 : LogAt w9 g d 0 := Blk.keeps hl8 ho9 (fun e => e.elim hgd.1 (fun e => e.elim hgd.2 (fun e => htg e.symm)))
        clear hAc hd8 hl8 hst8 hin8 hn8 hb8 ho9 hd7 hl7 hst7 hn7 hb7 c0 c1 c2 c3 c4 c5 c6 c7 hin
        go_wp2_with fail
        go_roundw
        case rel =>
          refine ⟨_, _, _, _, _, _, _, _, _, _, _, _, ?_, rfl⟩
          exact ⟨k + 1, A', s', by omega, by go_num, hd9, hl9, hst9, R4.out, hn9, hb9⟩
        case measure => simp [intOf]; omega
      · obtain rfl : k = l.length := by omega
        rw [List.take_length] at hI7
        obtain ⟨rd1, rd2⟩ := Sto.read_D A
        have hgd := LogAt.apart hl7 hd7
        have htg := hst7.apart hl7 (by decide)
        have hz7 := hd7.files.lt
        have hdl7 := hd7.blk.lt
        have HI := Lib.hid hI7
        have hsl : s.es.length ≤ 1000000000 := by have := hI7.len; omega
        have HA : RowKit.Hid (A.size ≤ 120000) := Lib.hid (by have := hI7.size; omega)
        clear hI7
        go_wp2_with fail
        refine (read_as hd7 (by decide) rd1 rd2).mono ?_
        rintro e w8 ⟨rfl, ho8⟩
        have hd8 := hd7.keeps ho8 (fun h => h) (fun h => h)
        have hl8 : LogAt w8 g d 0 := Blk.keeps hl7 ho8 (fun h => h)
        have hst8 := hst7.keeps ho8 (fun h => h) (fun _ _ h => h)
        have hn8 := hn7.trans ho8
        have hb8 := hb7.keeps ho8 (fun h => h)
        clear hd7 hl7 hst7 hn7 hb7 ho8
        obtain ⟨⟨t0, v0⟩, ⟨si, st, sc, sd⟩, es⟩ := s
        simp only at hsl
        go_wp2_with fail
        refine (state_at w8 mb t g _ hst8 (Nat.le_trans hsl (by decide))).mono ?_
        rintro e w9 ⟨x, rfl, ⟨vx, rfl, hvx⟩, ho9⟩
        obtain ⟨ao9, cap9, rfl⟩ := hvx.shape
        clear hvx
        have hd9 := hd8.keeps ho9 (fun h => h) (fun h => h)
        have hl9 : LogAt w9 g d 0 := Blk.keeps hl8 ho9 (fun h => h)
        have hst9 := hst8.keeps ho9 (fun h => h) (fun _ _ h => h)
        have hn9 := hn8.trans ho9
        have hb9 := hb8.keeps ho9 (fun h => h)
        clear hd8 hl8 hst8 hn8 hb8 ho9
        simp only [stCells]
        have hfield := run_field_hard w9 t0 v0 si st sc sd ao9 es.length cap9
        go_upto_region 14 with fail
        have hAy := (Only.refl NoBlock w9).alloc (Obj.cells #[.int .u64 t0, .int .i64 v0] 37)
        have hby := Blk.made w9 #[.int .u64 t0, .int .i64 v0] 37
        have hYl := hd9.blk.lt
        have hYm := hd9.files.lt
        have hYt := hst9.lt
        have hYX := hb9.lt
        have hdA := hd9.keeps hAy (fun h => h) (fun h => h)
        have hlA : LogAt _ g d 0 := Blk.keeps hl9 hAy (fun h => h)
        have hstA := hst9.keeps hAy (fun h => h) (fun _ _ h => h)
        have hnA := hn9.trans hAy
        have hbA := hb9.keeps hAy (fun h => h)
        generalize w9.heap.size = Y at hby hYl hYm hYt hYX ⊢
        generalize w9.alloc (Obj.cells #[.int .u64 t0, .int .i64 v0] 37) = wA at hby hdA hlA hstA hnA hbA ⊢
        clear hAy hd9 hl9 hst9 hn9 hb9 hfield
        obtain ⟨n1, n2⟩ := Sto.saved_now HI.out.right
        have y0 : wA.cell? ⟨Y, 0, none⟩ = some (.int .u64 t0) := by rw [hby.cell]; rfl
        have y1 : wA.cell? ⟨Y, 1, none⟩ = some (.int .i64 v0) := by rw [hby.cell]; rfl
        have N1 := Lib.hid n1
        have N2 := Lib.hid n2
        clear n1 n2
        have hmA := hnA.size
        go_wp2_with fail
        refine (save_as (h := ⟨t0, v0⟩) (s := ⟨⟨t0, v0⟩, ⟨si, st, sc, sd⟩, es⟩) (s' := ⟨⟨t0, v0⟩, ⟨si, st, sc, sd⟩, es⟩) (M' := Sto.D A) (k := 0) (l := []) hstA.hard hdA (by decide) hlA hstA (by have := hby.lt; omega) (EntsIn.nil _ _) rfl hsl (by decide) (fun e he => by cases he) (by rw [N2.out]; decide) (by unfold Sto.saveE; rw [N1.out, N2.out]; rfl) (by unfold Sto.saveM; rw [N1.out, N2.out]; rfl) (by unfold Sto.saveS; rw [N1.out, N2.out]; rfl)).mono ?_
        rintro e wB ⟨rfl, hdB, hstB, hoB⟩
        have hnB : Only NoBlock w wB := hnA.andThen hoB (by rintro i hi (e | e | e) <;> omega)
        have hbB := hbA.keeps hoB (by rintro (e | e | e) <;> omega)
        have hyB := hby.keeps hoB (by rintro (e | e | e) <;> omega)
        have hlB : LogAt wB g d 0 := Blk.keeps hlA hoB (fun e => e.elim hgd.1 (fun e => e.elim hgd.2 (fun e => htg e.symm)))
        clear hdA hlA hstA hnA hbA hby hoB y0 y1
        go_wp2_with fail
        refine (read_as hdB (by decide) rd1 rd2).mono ?_
        rintro e wC ⟨rfl, hoC⟩
        have hdC := hdB.keeps hoC (fun h => h) (fun h => h)
        have hlC : LogAt wC g d 0 := Blk.keeps hlB hoC (fun h => h)
        have hstC := hstB.keeps hoC (fun h => h) (fun _ _ h => h)
        have hnC := hnB.trans hoC
        have hbC := hbB.keeps hoC (fun h => h)
        have hyC := hyB.keeps hoC (fun h => h)
        clear hdB hlB hstB hnB hbB hyB hoC
        have x0 : wC.cell? ⟨X, 0, none⟩ = some (.int .u64 ht) := by rw [hbC.cell]; rfl
        have x1 : wC.cell? ⟨X, 1, none⟩ = some (.int .i64 hv) := by rw [hbC.cell]; rfl
        have hmC := hnC.size
        by_cases hq : ht = t0 ∧ hv = v0
        · obtain ⟨rfl, rfl⟩ := hq
          have hrg := Sto.right_vote HI.out.right
          simp only at hrg
          obtain ⟨hr1, hr2⟩ := hrg
          have hsz : (Wal.text (Sto.out ⟨⟨ht, hv⟩, ⟨si, st, sc, sd⟩, es⟩ ⟨ht, hv⟩ [])).size ≤ 1000000000 := by have := (Sto.out_short (s := ⟨⟨ht, hv⟩, ⟨si, st, sc, sd⟩, es⟩) HH.out (l := []) (fun e he => by cases he) (by decide)).2.1; have e0 : Lt.es [] = 0 := rfl; simp only [List.length_nil, e0] at this; omega
          have HSZ := Lib.hid hsz
          clear hsz
          go_wp2_with fail
          refine (save_as (h := ⟨ht, hv⟩) (s := ⟨⟨ht, hv⟩, ⟨si, st, sc, sd⟩, es⟩) (l := []) HH.out hdC (by decide) hlC hstC (by have := hyC.lt; omega) (EntsIn.nil _ _) rfl hsl (by decide) (fun e he => by cases he) HSZ.out (k := 0) ((Sto.save_vote_same HI.out.right rfl).1) (M' := Sto.D A) ((Sto.save_vote_same HI.out.right rfl).2) rfl).mono ?_
          rintro e wD ⟨rfl, hdD, -, hoD⟩
          have hnD : Only NoBlock w wD := hnC.andThen hoD (by rintro i hi (e | e | e) <;> omega)
          have hbD := hbC.keeps hoD (by rintro (e | e | e) <;> omega)
          have hyD := hyC.keeps hoD (by rintro (e | e | e) <;> omega)
          clear hdC hlC hstC hnC hbC hyC hoD x0 x1
          go_wp2_with fail
          refine (read_as hdD (by decide) (Sto.read_D _).1 (Sto.read_D _).2).mono ?_
          rintro e wE ⟨rfl, hoE⟩
          have hnE := hnD.trans hoE
          have hbE := hbD.keeps hoE (fun h => h)
          have hyE := hyD.keeps hoE (fun h => h)
          have x0 : wE.cell? ⟨X, 0, none⟩ = some (.int .u64 ht) := by rw [hbE.cell]; rfl
          have x1 : wE.cell? ⟨X, 1, none⟩ = some (.int .i64 hv) := by rw [hbE.cell]; rfl
          have y0 : wE.cell? ⟨Y, 0, none⟩ = some (.int .u64 ht) := by rw [hyE.cell]; rfl
          have y1 : wE.cell? ⟨Y, 1, none⟩ = some (.int .i64 hv) := by rw [hyE.cell]; rfl
          go_wp2_with fail
          go_ret
          exact ⟨rfl, hnE⟩
        · by_cases hrg : -1 ≤ hv ∧ hv < 7
          · obtain ⟨hr1, hr2⟩ := hrg
            have HQ := Lib.hid hq
            clear hq
            have hsz : (Wal.text (Sto.out ⟨⟨t0, v0⟩, ⟨si, st, sc, sd⟩, es⟩ ⟨ht, hv⟩ [])).size ≤ 1000000000 := by have := (Sto.out_short (s := ⟨⟨t0, v0⟩, ⟨si, st, sc, sd⟩, es⟩) HH.out (l := []) (fun e he => by cases he) (by decide)).2.1; have e0 : Lt.es [] = 0 := rfl; simp only [List.length_nil, e0] at this; omega
            have HSZ := Lib.hid hsz
            clear hsz
            go_wp2_with fail
            refine (save_as (h := ⟨ht, hv⟩) (s := ⟨⟨t0, v0⟩, ⟨si, st, sc, sd⟩, es⟩) (l := []) HH.out hdC (by decide) hlC hstC (by have := hyC.lt; omega) (EntsIn.nil _ _) rfl hsl (by decide) (fun e he => by cases he) HSZ.out (k := 0) ((Sto.save_vote_go HA.out HI.out.right HH.out HQ.out ⟨hr1, hr2⟩).1) (M' := Sto.D (A ++ textOf (Wal.frame (nums (Sto.hardB ⟨ht, hv⟩))))) ((Sto.save_vote_go HA.out HI.out.right HH.out HQ.out ⟨hr1, hr2⟩).2) rfl).mono ?_
            rintro e wD ⟨rfl, hdD, -, hoD⟩
            have hnD : Only NoBlock w wD := hnC.andThen hoD (by rintro i hi (e | e | e) <;> omega)
            have hbD := hbC.keeps hoD (by rintro (e | e | e) <;> omega)
            have hyD := hyC.keeps hoD (by rintro (e | e | e) <;> omega)
            clear hdC hlC hstC hnC hbC hyC hoD x0 x1
            go_wp2_with fail
            refine (read_as hdD (by decide) (Sto.read_D _).1 (Sto.read_D _).2).mono ?_
            rintro e wE ⟨rfl, hoE⟩
            have hnE := hnD.trans hoE
            have hbE := hbD.keeps hoE (fun h => h)
            have hyE := hyD.keeps hoE (fun h => h)
            have x0 : wE.cell? ⟨X, 0, none⟩ = some (.int .u64 ht) := by rw [hbE.cell]; rfl
            have x1 : wE.cell? ⟨X, 1, none⟩ = some (.int .i64 hv) := by rw [hbE.cell]; rfl
            have y0 : wE.cell? ⟨Y, 0, none⟩ = some (.int .u64 t0) := by rw [hyE.cell]; rfl
            have y1 : wE.cell? ⟨Y, 1, none⟩ = some (.int .i64 v0) := by rw [hyE.cell]; rfl
            have HD : RowKit.Hid (decide (ht = t0 ∧ hv = v0) = false) := Lib.hid (decide_eq_false HQ.out)
            have hhs := Sto.hardB_size (h := ⟨ht, hv⟩) HH.out.term
            have hfl := Wal.frame_long (nums (Sto.hardB ⟨ht, hv⟩))
            rw [nums_length] at hfl
            have hAs := HA.out
            have hcat : (9223372036854775807 < A.size + (textOf (Wal.frame (nums (Sto.hardB ⟨ht, hv⟩)))).size) = False := by rw [textOf_size]; simp; omega
            go_wp2_with (first
              | (refine wpList_neq_hard wE rfl _ _ rfl ht t0 hv v0 rfl rfl ?_; rw [HD.out]; simp only [Act.put, List.setIfInBounds_toArray, List.set_cons_zero, List.set_cons_succ]))
            refine (rhard8_at wE ⟨ht, hv⟩ HH.out).mono ?_
            rintro e wF ⟨rfl, hoF⟩
            go_wp2_with fail
            refine (rframe_at wF (Sto.hardB ⟨ht, hv⟩) (by omega)).mono ?_
            rintro e wG ⟨rfl, hoG⟩
            go_wp2_with fail
            go_ret
            exact ⟨rfl, (hnE.trans hoF).trans hoG⟩
          · have HR := Lib.hid hrg
            clear hq
            have hsz : (Wal.text (Sto.out ⟨⟨t0, v0⟩, ⟨si, st, sc, sd⟩, es⟩ ⟨ht, hv⟩ [])).size ≤ 1000000000 := by have := (Sto.out_short (s := ⟨⟨t0, v0⟩, ⟨si, st, sc, sd⟩, es⟩) HH.out (l := []) (fun e he => by cases he) (by decide)).2.1; have e0 : Lt.es [] = 0 := rfl; simp only [List.length_nil, e0] at this; omega
            have HSZ := Lib.hid hsz
            clear hsz
            go_wp2_with fail
            refine (save_as (h := ⟨ht, hv⟩) (s := ⟨⟨t0, v0⟩, ⟨si, st, sc, sd⟩, es⟩) (l := []) HH.out hdC (by decide) hlC hstC (by have := hyC.lt; omega) (EntsIn.nil _ _) rfl hsl (by decide) (fun e he => by cases he) HSZ.out (k := 1) ((Sto.save_vote_no HI.out.right HH.out HR.out).1) (M' := Sto.D A) ((Sto.save_vote_no HI.out.right HH.out HR.out).2) rfl).mono ?_
            rintro e wD ⟨rfl, hdD, -, hoD⟩
            have hnD : Only NoBlock w wD := hnC.andThen hoD (by rintro i hi (e | e | e) <;> omega)
            have hbD := hbC.keeps hoD (by rintro (e | e | e) <;> omega)
            have hyD := hyC.keeps hoD (by rintro (e | e | e) <;> omega)
            clear hdC hlC hstC hnC hbC hyC hoD x0 x1
            go_wp2_with fail
            refine (read_as hdD (by decide) (Sto.read_D _).1 (Sto.read_D _).2).mono ?_
            rintro e wE ⟨rfl, hoE⟩
            have hnE := hnD.trans hoE
            have hbE := hbD.keeps hoE (fun h => h)
            have hyE := hyD.keeps hoE (fun h => h)
            have x0 : wE.cell? ⟨X, 0, none⟩ = some (.int .u64 ht) := by rw [hbE.cell]; rfl
            have x1 : wE.cell? ⟨X, 1, none⟩ = some (.int .i64 hv) := by rw [hbE.cell]; rfl
            have y0 : wE.cell? ⟨Y, 0, none⟩ = some (.int .u64 t0) := by rw [hyE.cell]; rfl
            have y1 : wE.cell? ⟨Y, 1, none⟩ = some (.int .i64 v0) := by rw [hyE.cell]; rfl
            by_cases hlo : hv < -1
            · clear hrg
              go_wp2_with fail
              go_ret
              exact ⟨rfl, hnE⟩
            · have hhi : 7 ≤ hv := by omega
              clear hrg
              go_wp2_with fail
              go_ret
              exact ⟨rfl, hnE⟩
  · rw [decide_eq_false hlw] at he
    subst he
    go_wp2_with fail
    go_ret
    exact ⟨rfl, hn3⟩
theorem walk_StoreStill {w : World} (x : List CallS × Option Addr × Nat) (hx : CallsS w x.2.1 x.1) (h : Hrd) (hh : h.Wf) :
    Calls Try.prog 4 #[.slice x.2.1 x.1.length x.2.2, .agg #[.int .u64 h.term, .int .i64 h.vote]] w fun e w' => e = .returned (.bool true) ∧ Below w.heap.size w w' :=
  (walk_Still x.2.1 x.2.2 x.1 hx h hh).mono fun e w' ⟨he, ho⟩ => ⟨he, ho.below (Nat.le_refl _) (fun _ h => h.elim)⟩
end Go.Proofs.Ytekmjhenhgmpgaa

/- The statement StoreStill: for every input the law returns true, and each argument reads afterwards as before. Frame of the walk in LawStoreStill. -/
namespace Go.Proofs.Ytekmjhenhgmpgaa.storeStill
open Go.ChangeShapes Go.WideShapes Go.ChangeAt Go.RowKit
open Go.ChangeMaps (open_string shut_string)
set_option linter.unusedVariables false

theorem own : ownKnob Try.prog.godebug = none := by kernel_rfl
theorem laidOut : laidOutB Try.prog = true := by kernel_rfl
theorem ub : Try.prog.underlying 4 = some .bool := by kernel_rfl

set_option maxRecDepth 100000 in
theorem lifted (os : Os) (started : os.Started) (H : Type) (enc : TypeId × Value → H) (F : Stop.Interp) :
    ReturnsInHanded {} Try.checked os 4 .any ((Rows.OpenSpec.upto Rows.storeStillSpec).pre6 enc Try.prog Try.f4 Rows.storeStillUptoRow.domain false) (((Rows.OpenSpec.upto Rows.storeStillSpec).at F).post enc Try.prog Try.f4 false true false false) := by
  refine returnsInHanded_of_cond (C := Try.checked) (s := Rows.OpenSpec.upto Rows.storeStillSpec) (k := Rows.uptoSmall) rfl own started (by kernel_rfl) Try.func4
    (OpenSpec.witness (enc := enc) (C := Try.checked) (s := Rows.OpenSpec.upto Rows.storeStillSpec) (k := Rows.uptoSmall) rfl false ⟨#[], #[.slice none 0 0, .agg #[.int .u64 0, .int .i64 0]], []⟩ 8 (by kernel_rfl) (by kernel_rfl) (by kernel_rfl)
      (x := ([.nil, .agg [.lit (.int .u64 0), .lit (.int .i64 0)]], [], [])) (by kernel_rfl) rfl (by kernel_rfl)) ?_
  intro W base args ds gs before hval0 hW hcnd hk0 _
  show Calls Try.prog 4 args W fun e W' => ∃ v, e = .returned v ∧ Rows.storeStillSpec.post enc Try.prog Try.f4 false true false false W args v W'
  have hk : Rows.uptoBulkAll (ds ++ gs) ≤ 1048576 := of_decide_eq_true hk0
  have hval : ∀ (j : Nat) t v, Try.f4.params[j]? = some t → args[j]? = some v → Value.okWide Try.prog W .any base t v := hval0
  have hW' := hW
  obtain ⟨p, q, hA0, hV, rfl, hfz, hnd⟩ := hW
  have hA : DataW.TrodAll enc Try.prog W 0 (fun _ => true) true Try.f4.params.toList args.toList ds p := hA0
  rw [Try.params4] at hA hval
  obtain ⟨v0, vs0, d0, ds0, p0, q0, hargs, rfl, rfl, h0, r0⟩ := trodAll_cons hA
  obtain ⟨v1, vs1, d1, ds1, p1, q1, rfl, rfl, rfl, h1, r1⟩ := trodAll_cons r0
  obtain ⟨rfl, rfl, rfl⟩ := trodAll_nil r1
  obtain rfl : args = #[v0, v1] := by cases args; simp_all
  obtain ⟨rfl, rfl⟩ := trodVars_none hV
  have k0 := h0
  have lt0 : ∀ x ∈ p0, x.block < W.heap.size := by obtain ⟨m, hm⟩ := k0; exact DataW.trod_lt m _ _ _ hm
  have k1 := h1
  have lt1 : ∀ x ∈ p1, x.block < W.heap.size := by obtain ⟨m, hm⟩ := k1; exact DataW.trod_lt m _ _ _ hm
  simp only [Rows.uptoBulkAll, List.cons_append, List.nil_append, List.append_nil] at hk
  have b0 : Rows.uptoBulk d0 ≤ 1048576 := by omega
  have b1 : Rows.uptoBulk d1 ≤ 1048576 := by omega
  clear hk
  obtain ⟨a0, rfl, w0⟩ := open_calls8 (hval 0 55 v0 rfl rfl) h0 b0
  obtain ⟨a1, rfl, w1⟩ := open_hard (hval 1 37 v1 rfl rfl) h1
  clear hA0 hval0
  refine (walk_StoreStill (w := W) a0 w0 a1 w1).mono fun e W' ⟨he, bel⟩ => ?_
  subst he
  exact ⟨_, rfl, _, _, _, [], _, [], hW', trodAll_mk1 (shut_bool ub _), (trodAll_cons_mk (Below.trod laidOut (by kernel_rfl) (of_decide_eq_true (by kernel_rfl)) k0 bel lt0) (trodAll_cons_mk (Below.trod laidOut (by kernel_rfl) (of_decide_eq_true (by kernel_rfl)) k1 bel lt1) trodAll_mk0)), rfl, bel.frame _, fun h => by cases h⟩

theorem proved : Rows.StoreStillUptoSaid :=
  OpenClaim.holds_of_cond 4 Try.f4 rfl rfl rfl rfl rfl rfl rfl ⟨rfl, rfl, rfl, rfl, rfl⟩ rfl rfl rfl rfl rfl (by kernel_rfl) Try.func4 (by kernel_rfl)
    (of_decide_eq_true (by kernel_rfl)) (by unfold Func.isWrapper; first | (rw [if_pos (by decide +kernel)]; kernel_rfl) | (rw [if_neg (by decide +kernel)]; exact ⟨rfl, rfl⟩))
    (fun os started H enc _ F => lifted os started H enc F)
#print axioms proved
end Go.Proofs.Ytekmjhenhgmpgaa.storeStill
