/- The statement StoreAgain: its walk and its frame. -/
import Derived.Test.YtekmjhenhgmpgaaME
import Derived.Test.YtekmjhenhgmpgaaRows
import Derived.JoinedCond
import Derived.WalkKit
import Derived.ProofKit
import Derived.OpenShut
import Derived.ShutString
import Derived.ChangeOld
import Derived.Below

/- What a store tells as its state is what is opened, and saved anew it is that, too: the walk of the law. -/
namespace Go.Proofs.Ytekmjhenhgmpgaa
open Go.RowKit
set_option maxRecDepth 100000

theorem EntsIn.keepsN {S : Nat → Prop} {w w' : World} {ao : Option Addr} {l : List Ent} (h : EntsIn w ao l) (ho : Only S w w') (hs : ∀ k, k < w.heap.size → ¬ S k) : EntsIn w' ao l :=
  ⟨h.wf, h.len, fun i hi => by
    obtain ⟨b, off, e, h0, h1, h2, h3⟩ := h.cell i hi
    have hlt : b < w.heap.size := World.block_lt_of_cell? w _ h0
    have hb := ho.block b hlt (hs b hlt)
    have hc : ∀ k, w'.cell? ⟨b, k, none⟩ = w.cell? ⟨b, k, none⟩ := fun k => by simp [World.cell?, hb]
    exact ⟨b, off, e, by rw [hc, h0], by rw [hc, h1], by rw [hc, h2], by rw [hc, h3]⟩⟩
/-- a row that lay there before the disk -/
theorem ents_old {ao : Option Addr} {es : List Ent} {N d mb : Nat} (hold : ∀ a, ao = some a → es = [] ∨ a.block < N) (hd : N ≤ d) (hm : N ≤ mb) : ∀ wx wy : World, EntsIn wx ao es → Only (fun k => k = d ∨ k = mb) wx wy → EntsIn wy ao es := by
  intro wx wy h ho
  by_cases he : es = []
  · subst he; exact EntsIn.nil _ _
  · exact h.keeps ho (fun a ha e => by rcases hold a ha with h1 | h1; (exact he h1); (rcases e with e | e <;> omega))
theorem sanew_as {w : World} {base t g d mb : Nat} {M : DM} {n : Int} {old c : St} {ao : Option Addr} {cap : Nat} (hh : c.hard.Wf) (hs : c.snap.Wf) (hl : EntsIn w ao c.es) (hd : DiskAt w d mb M) (hw : (Lit.int .i64 n).wf = true) (hg : LogAt w g d n) (hS : StoreAt w base t g old) (hbase : base ≤ w.heap.size)
    (hlb : ∀ wx wy : World, EntsIn wx ao c.es → Only (fun k => k = d ∨ k = mb) wx wy → EntsIn wy ao c.es) (hle : c.es.length ≤ 1000000000) (hdat : ∀ e ∈ c.es, e.data.size ≤ 1000000000) (hsz : (Wal.text (Sto.anewR c)).size ≤ 1000000000)
    {k : Int} (hE : Sto.anewE M n c = k) {M' : DM} (hM : Sto.anewM M n c = M') {s' : St} (hs' : Sto.anewS M n old c = s') :
    Calls Try.prog 24 #[.pointer (some ⟨t, 0, none⟩), .agg #[.int .u64 c.hard.term, .int .i64 c.hard.vote, .int .u64 c.snap.index, .int .u64 c.snap.term, .int .u64 c.snap.config, .string c.snap.data, .slice ao c.es.length cap]] w (StoreEnd k M' s' base t g d mb w) := by
  subst hE; subst hM; subst hs'
  obtain ⟨⟨ht, hv⟩, ⟨si, st, sc, sd⟩, es⟩ := c
  exact sanew_raw w base t g d mb M n old ht hv si st sc sd es ao cap hh hs hl hd hw hg hS hbase hlb hle hdat hsz

set_option maxHeartbeats 8000000 in
theorem walk_Again {w : World} (ao : Option Addr) (cap : Nat) (l : List CallS) (hl : CallsS w ao l) :
    Calls Try.prog 6 #[.slice ao l.length cap] w fun e w' => e = .returned (.bool true) ∧ Only NoBlock w w' := by
  have hlen := hl.len
  go_enter Try.func6, Try.ntmps6
  go_wp2_with fail
  refine (begun8_ok w).mono ?_
  rintro e w2 ⟨rfl, hn2⟩
  go_wp2_with fail
  refine (light_at w2 ao cap l (hl.keeps hn2)).mono ?_
  rintro e w3 ⟨he, ho3⟩
  have hn3 := hn2.trans ho3
  clear hn2 ho3
  by_cases hlw : Lt.lw l ≤ 400
  · rw [decide_eq_true hlw] at he
    subst he
    go_wp2_with fail
    refine (new_ok w3 1048576 (by omega) (by omega)).mono ?_
    rintro e w4 ⟨rfl, hd4, ho4, hs4⟩
    have hn4 := hn3.trans ho4
    generalize hmb : w3.heap.size = mb at hd4 hs4 ⊢
    generalize hd : mb + 1 = d at hd4 ⊢
    have hz3 := hn3.size
    have hwd : w.heap.size ≤ mb := by omega
    have hz4 : mb < w4.heap.size := by omega
    clear hn3 hs4
    go_wp2_with fail
    obtain ⟨q1, q2, q3⟩ := Sto.open_new
    refine (sopen_ok hd4 (by decide) (by omega) q1 q2 q3).mono ?_
    rintro e w5 ⟨t, g, ao5, cap5, rfl, ht5, hlog5, hst5, -, -, -, hd5, ho5⟩
    clear q1 q2 q3
    have hn5 : Only NoBlock w w5 := hn4.andThen ho5 (by rintro i hi (e | e) <;> omega)
    have hst5' := hst5.lower (b' := mb) (by omega)
    clear hn4 ho5 hd4 hst5
    simp only [stCells, Sto.first, List.length_nil]
    go_upto_region 7 with fail
    have hA5 := (Only.refl NoBlock w5).alloc (Obj.cells #[.int .u64 0, .int .i64 (-1), .int .u64 0, .int .u64 0, .int .u64 7, .string ByteArray.empty, .slice ao5 0 cap5] 42)
    have hd6 := hd5.keeps hA5 (fun h => h) (fun h => h)
    have hl6 : LogAt _ g d 0 := Blk.keeps hlog5 hA5 (fun h => h)
    have hst6 := hst5'.keeps hA5 (fun h => h) (fun _ _ h => h)
    have hn6 := hn5.trans hA5
    have hI6 := Sto.Iv.start
    generalize w5.alloc (Obj.cells #[.int .u64 0, .int .i64 (-1), .int .u64 0, .int .u64 0, .int .u64 7, .string ByteArray.empty, .slice ao5 0 cap5] 42) = w6 at hd6 hl6 hst6 hn6 ⊢
    clear hA5 hn5 hd5 hlog5 hst5'
    generalize w5.heap.size = P5
    have htm : mb < t := by omega
    go_wp2_with fail
    go_loopw [41] (fun u41 wr => ∃ (k : Nat) (A : ByteArray) (s : St), k ≤ l.length ∧ u41 = .int .i64 k ∧ DiskAt wr d mb (Sto.D A) ∧ LogAt wr g d 0 ∧ StoreAt wr mb t g s ∧ Sto.Iv A s (Lt.lw (l.take k)) ∧ Only NoBlock w wr) (fun u41 _ => l.length - (intOf u41).toNat)
    case atStart => exact ⟨0, _, _, by omega, rfl, hd6, hl6, hst6, hI6, hn6⟩
    case round =>
      clear hd6 hl6 hst6 hI6 hn6
      obtain ⟨k, A, s, hk, rfl, hd7, hl7, hst7, hI7, hn7⟩ := hrel
      by_cases hlt : k < l.length
      · have hl8 := hl.keeps hn7
        obtain ⟨b, off, rfl, hc⟩ := hl8.call k hlt
        obtain ⟨c0, c1, c2, c3, c4, c5, c6, c7⟩ := hc
        have hfew := hl.few k hlt
        have hdat := hl.dat k hlt
        have hhd := hl.hard k hlt
        have hsw := hl.snap k hlt
        have hold := hl.old k hlt
        have hin := hl8.ents k hlt
        have hsn := Lt.lw_snoc hlt
        have htk := Sto.lw_take_le l (k + 1)
        have hcw : Lt.cw (l.getD k CallS.zero) = 1 + (l.getD k CallS.zero).es.length + (l.getD k CallS.zero).snap.data.size / 50 + Lt.es (l.getD k CallS.zero).es := rfl
        have HIN := Lib.hid hI7
        clear hl8
        generalize l.getD k CallS.zero = c at *
        obtain ⟨ca, ⟨ct, cv⟩, ⟨si, st, sc, sd⟩, ao2, cap2, es⟩ := c
        simp only at c0 c1 c2 c3 c4 c5 c6 c7 hfew hdat hhd hsw hold hin hcw
        have hm : Lt.lw (l.take k) + (1 + es.length + sd.size / 50 + Lt.es es) ≤ 400 := by omega
        have hsl := HIN.out.len
        have HOLD := Lib.hid hold
        have HSL : RowKit.Hid (s.es.length ≤ 1000000000) := Lib.hid (by omega)
        have HM := Lib.hid hm
        have HSN : RowKit.Hid (Lt.lw (l.take (k + 1)) = Lt.lw (l.take k) + (1 + es.length + sd.size / 50 + Lt.es es)) := Lib.hid (by omega)
        clear hsl hcw htk hsn hI7 hold hm
        have hAc := (Only.refl NoBlock wr).alloc (Obj.cells #[.bool ca, .int .u64 ct, .int .i64 cv, .int .u64 si, .int .u64 st, .int .u64 sc, .string sd, .slice ao2 es.length cap2] 58)
        have hbc := Blk.made wr #[.bool ca, .int .u64 ct, .int .i64 cv, .int .u64 si, .int .u64 st, .int .u64 sc, .string sd, .slice ao2 es.length cap2] 58
        go_upto_region 10 with fail
        have hd8 := hd7.keeps hAc (fun h => h) (fun h => h)
        have hl8 : LogAt _ g d 0 := Blk.keeps hl7 hAc (fun h => h)
        have hst8 := hst7.keeps hAc (fun h => h) (fun _ _ h => h)
        have hin8 := hin.keeps hAc (fun _ _ h => h)
        have hn8 := hn7.trans hAc
        generalize wr.heap.size = Pc at hbc ⊢
        generalize wr.alloc (Obj.cells #[.bool ca, .int .u64 ct, .int .i64 cv, .int .u64 si, .int .u64 st, .int .u64 sc, .string sd, .slice ao2 es.length cap2] 58) = w8 at hd8 hl8 hst8 hin8 hn8 hbc ⊢
        have hgd := LogAt.apart hl8 hd8
        have htg := hst8.apart hl8 (by decide)
        have hz8 := hd8.files.lt
        clear c0 c1 c2 c3 c4 c5 c6 c7 hAc hd7 hl7 hst7 hin hn7
        have c0 : w8.cell? ⟨Pc, 0, none⟩ = some (.bool ca) := by rw [hbc.cell]; rfl
        have c1 : w8.cell? ⟨Pc, 1, none⟩ = some (.int .u64 ct) := by rw [hbc.cell]; rfl
        have c2 : w8.cell? ⟨Pc, 2, none⟩ = some (.int .i64 cv) := by rw [hbc.cell]; rfl
        have c3 : w8.cell? ⟨Pc, 3, none⟩ = some (.int .u64 si) := by rw [hbc.cell]; rfl
        have c4 : w8.cell? ⟨Pc, 4, none⟩ = some (.int .u64 st) := by rw [hbc.cell]; rfl
        have c5 : w8.cell? ⟨Pc, 5, none⟩ = some (.int .u64 sc) := by rw [hbc.cell]; rfl
        have c6 : w8.cell? ⟨Pc, 6, none⟩ = some (.string sd) := by rw [hbc.cell]; rfl
        have c7 : w8.cell? ⟨Pc, 7, none⟩ = some (.slice ao2 es.length cap2) := by rw [hbc.cell]; rfl
        cases ca with
        | false =>
          obtain ⟨A', s', r1, r2, r3, r4, -⟩ := Sto.save_go HIN.out hhd hin8.wf (by have := HM.out; omega)
          have ho := (Sto.out_short (s := s) hhd hin8.wf (by have := HM.out; omega)).2.1
          obtain ⟨rv, hrv⟩ : ∃ rv, Sto.saveE (Sto.D A) 0 s ⟨ct, cv⟩ es = rv := ⟨_, rfl⟩
          have R1 := Lib.hid hrv
          have R2 := Lib.hid r2
          have R3 := Lib.hid r3
          have R4 := Lib.hid (r4.more (n := Lt.lw (l.take (k + 1))) (by have := HSN.out; omega))
          have HO : RowKit.Hid ((Wal.text (Sto.out s ⟨ct, cv⟩ es)).size ≤ 1000000000) := Lib.hid (by have := HM.out; omega)
          clear r1 r2 r3 r4 ho hrv
          go_wp2_with fail
          refine (save_as (h := ⟨ct, cv⟩) hhd hd8 (by decide) hl8 hst8 (by omega) hin8 rfl HSL.out (by omega) (fun e he => Nat.le_trans (hdat e he) (by decide)) HO.out R1.out R2.out R3.out).mono ?_
          rintro e w9 ⟨rfl, hd9, hst9, ho9⟩
          have hn9 : Only NoBlock w w9 := hn8.andThen ho9 (by rintro i hi (e | e | e) <;> omega)
          have hl9 : LogAt w9 g d 0 := Blk.keeps hl8 ho9 (fun e => e.elim hgd.1 (fun e => e.elim hgd.2 (fun e => htg e.symm)))
          clear hd8 hl8 hst8 hin8 hn8 ho9 c0 c1 c2 c3 c4 c5 c6 c7
          go_wp2_with fail
          go_roundw
          case rel =>
            refine ⟨_, _, _, _, _, _, _, _, _, _, _, _, _, _, _, _, _, _, _, _, _, _, _, ?_, rfl⟩
            exact ⟨k + 1, A', s', by omega, by go_num, hd9, hl9, hst9, R4.out, hn9⟩
          case measure => simp [intOf]; omega
        | true =>
          obtain ⟨A', s', r1, r2, r3, r4, -⟩ := Sto.anew_go (c := ⟨⟨ct, cv⟩, ⟨si, st, sc, sd⟩, es⟩) HIN.out hhd hsw hin8.wf HM.out
          have ho := (Sto.anewR_short (s := ⟨⟨ct, cv⟩, ⟨si, st, sc, sd⟩, es⟩) hhd hsw hin8.wf (by have := HM.out; simp only; omega) (by have := HM.out; simp only; omega)).2
          simp only at ho
          obtain ⟨rv, hrv⟩ : ∃ rv, Sto.anewE (Sto.D A) 0 ⟨⟨ct, cv⟩, ⟨si, st, sc, sd⟩, es⟩ = rv := ⟨_, rfl⟩
          have R1 := Lib.hid hrv
          have R2 := Lib.hid r2
          have R3 := Lib.hid r3
          have R4 := Lib.hid (r4.more (n := Lt.lw (l.take (k + 1))) (by have := HSN.out; simp only; omega))
          have HO : RowKit.Hid ((Wal.text (Sto.anewR ⟨⟨ct, cv⟩, ⟨si, st, sc, sd⟩, es⟩)).size ≤ 1000000000) := Lib.hid (by have := HM.out; omega)
          clear r1 r2 r3 r4 ho hrv
          go_wp2_with fail
          refine (sanew_as (c := ⟨⟨ct, cv⟩, ⟨si, st, sc, sd⟩, es⟩) hhd hsw hin8 hd8 (by decide) hl8 hst8 (by omega) (ents_old HOLD.out (by omega) (by omega)) (by simp only; omega) (fun e he => Nat.le_trans (hdat e he) (by decide)) HO.out R1.out R2.out R3.out).mono ?_
          rintro e w9 ⟨rfl, hd9, hst9, ho9⟩
          have hn9 : Only NoBlock w w9 := hn8.andThen ho9 (by rintro i hi (e | e | e) <;> omega)
          have hl9 : LogAt w9 g d 0 := Blk.keeps hl8 ho9 (fun e => e.elim hgd.1 (fun e => e.elim hgd.2 (fun e => htg e.symm)))
          clear hd8 hl8 hst8 hin8 hn8 ho9 c0 c1 c2 c3 c4 c5 c6 c7
          go_wp2_with fail
          go_roundw
          case rel =>
            refine ⟨_, _, _, _, _, _, _, _, _, _, _, _, _, _, _, _, _, _, _, _, _, _, _, ?_, rfl⟩
            exact ⟨k + 1, A', s', by omega, by go_num, hd9, hl9, hst9, R4.out, hn9⟩
          case measure => simp [intOf]; omega
      · obtain rfl : k = l.length := by omega
        rw [List.take_length] at hI7
        have hsl : s.es.length ≤ 1200 := by have := hI7.len; omega
        have hwf := hI7.wf
        have htot := hI7.tot
        obtain ⟨f1, f2, f3⟩ := hI7.fits hlw hst7.hard hst7.snap
        obtain ⟨p1, p2⟩ := hI7.opened hlw
        obtain ⟨x1, x2, x3, x4, x5, x6⟩ := Sto.other hst7.hard hst7.snap hwf f1 f2 f3
        have hhd := hst7.hard
        have hsw := hst7.snap
        have hdat : ∀ e ∈ s.es, e.data.size ≤ 1000000000 := fun e he => Nat.le_trans ((Sto.right_ents hI7.right) e he).2.2 (by decide)
        have P1 := Lib.hid p1
        have P2 := Lib.hid p2
        have X1 := Lib.hid x1
        have X2 := Lib.hid x2
        have X3 := Lib.hid x3
        have X4 := Lib.hid x4
        have X5 := Lib.hid x5
        have X6 := Lib.hid x6
        have F2 := Lib.hid f2
        have HWF := Lib.hid hwf
        have HDAT := Lib.hid hdat
        have hz7 := hd7.files.lt
        clear hI7 p1 p2 x1 x2 x3 x4 x5 x6 f1 f2 f3 hwf htot hdat hl7
        obtain ⟨⟨t0, v0⟩, ⟨si, sj, sc, sd⟩, es⟩ := s
        simp only at hsl
        go_wp2_with fail
        refine (state_at wr mb t g _ hst7 (Nat.le_trans hsl (by decide))).mono ?_
        rintro e w9 ⟨x, rfl, ⟨vx, rfl, hvx⟩, ho9⟩
        obtain ⟨ao10, cap10, rfl⟩ := hvx.shape
        have hv9 := (hvx.read (Nat.le_trans hsl (by decide))).1
        clear hvx
        have hd9 := hd7.keeps ho9 (fun h => h) (fun h => h)
        have hn9 := hn7.trans ho9
        clear hd7 hst7 hn7 ho9
        simp only [stCells]
        simp only at hv9
        go_upto_region 15 with fail
        have hA9 := (Only.refl NoBlock w9).alloc (Obj.cells #[.int .u64 t0, .int .i64 v0, .int .u64 si, .int .u64 sj, .int .u64 sc, .string sd, .slice ao10 es.length cap10] 42)
        have hB10 := Blk.made w9 #[.int .u64 t0, .int .i64 v0, .int .u64 si, .int .u64 sj, .int .u64 sc, .string sd, .slice ao10 es.length cap10] 42
        have hd10 := hd9.keeps hA9 (fun h => h) (fun h => h)
        have hn10 := hn9.trans hA9
        have hv10 := hv9.keepsN hA9 (fun _ _ h => h)
        generalize w9.heap.size = P10 at hB10 ⊢
        generalize w9.alloc (Obj.cells #[.int .u64 t0, .int .i64 v0, .int .u64 si, .int .u64 sj, .int .u64 sc, .string sd, .slice ao10 es.length cap10] 42) = w10 at hB10 hd10 hn10 hv10 ⊢
        clear hA9 hd9 hn9 hv9
        go_wp2_with fail
        refine (crash_as hd10 (ints_nil8 _) rfl (M' := Sto.D A) (Sto.crash_D A _)).mono ?_
        rintro e w11 ⟨rfl, hd11, ho11⟩
        have hn11 := hn10.trans ho11
        have hz10 := hn10.size
        have hP10 := hB10.lt
        have hq11 : w10.heap.size + 1 < w11.heap.size := hd11.blk.lt
        generalize hd2 : w10.heap.size + 1 = d2 at hd11 hq11 ⊢
        generalize hm2 : w10.heap.size = m2 at hd11 hd2 hz10 hP10 ⊢
        clear hd10
        go_wp2_with fail
        refine (sopen_ok hd11 (by decide) (by omega) P1.out rfl P2.out).mono ?_
        rintro e w12 ⟨t12, g12, ao12, cap12, rfl, -, -, -, hv12, -, -, -, ho12⟩
        have hn12 : Only NoBlock w w12 := hn11.andThen ho12 (by rintro i hi (e | e) <;> omega)
        have hO12 : Only NoBlock w10 w12 := ho11.andThen ho12 (by rintro i hi (e | e) <;> omega)
        clear hn10 hn11 hd11 ho12 ho11
        simp only [stCells]
        simp only at hv12
        go_upto_region 16 with fail
        have hA12 := (Only.refl NoBlock w12).alloc (Obj.cells #[.int .u64 t0, .int .i64 v0, .int .u64 si, .int .u64 sj, .int .u64 sc, .string sd, .slice ao12 es.length cap12] 42)
        have hB13 := Blk.made w12 #[.int .u64 t0, .int .i64 v0, .int .u64 si, .int .u64 sj, .int .u64 sc, .string sd, .slice ao12 es.length cap12] 42
        have hv13 := hv12.keepsN hA12 (fun _ _ h => h)
        have hn13 := hn12.trans hA12
        have hO13 := hO12.trans hA12
        generalize w12.heap.size = P12 at hB13 ⊢
        generalize w12.alloc (Obj.cells #[.int .u64 t0, .int .i64 v0, .int .u64 si, .int .u64 sj, .int .u64 sc, .string sd, .slice ao12 es.length cap12] 42) = w13 at hB13 hv13 hn13 hO13 ⊢
        clear hA12 hn12 hO12 hv12
        go_wp2_with fail
        refine (new_ok w13 1048576 (by omega) (by omega)).mono ?_
        rintro e w14 ⟨rfl, hd14, ho14, hs14⟩
        have hn14 := hn13.trans ho14
        have hz13 := hn13.size
        have hq13 := hO13.size
        have hP13 := hB13.lt
        generalize hm3 : w13.heap.size = m3 at hd14 hs14 hz13 hP13 hq13 ⊢
        generalize hd3 : m3 + 1 = d3 at hd14 hs14 ⊢
        clear hn13
        go_wp2_with fail
        refine (sopen_ok hd14 (by decide) (by omega) X1.out rfl X2.out).mono ?_
        rintro e w15 ⟨u, gu, ao15, cap15, rfl, hu15, hlog15, hst15, -, -, -, hd15, ho15⟩
        have hn15 : Only NoBlock w w15 := hn14.andThen ho15 (by rintro i hi (e | e) <;> omega)
        have hO15 : Only NoBlock w13 w15 := ho14.andThen ho15 (by rintro i hi (e | e) <;> omega)
        have hst15' := hst15.lower (b' := m3) (by omega)
        clear hn14 ho14 ho15 hd14 hst15
        simp only [stCells, Sto.first, List.length_nil]
        go_upto_region 18 with fail
        have hA15 := (Only.refl NoBlock w15).alloc (Obj.cells #[.int .u64 0, .int .i64 (-1), .int .u64 0, .int .u64 0, .int .u64 1, .string ByteArray.empty, .slice ao15 0 cap15] 42)
        have hd16 := hd15.keeps hA15 (fun h => h) (fun h => h)
        have hl16 : LogAt _ gu d3 3 := Blk.keeps hlog15 hA15 (fun h => h)
        have hst16 := hst15'.keeps hA15 (fun h => h) (fun _ _ h => h)
        have hn16 := hn15.trans hA15
        have hO16 := hO15.trans hA15
        generalize w15.alloc (Obj.cells #[.int .u64 0, .int .i64 (-1), .int .u64 0, .int .u64 0, .int .u64 1, .string ByteArray.empty, .slice ao15 0 cap15] 42) = w16 at hd16 hl16 hst16 hn16 hO16 ⊢
        generalize w15.heap.size = P15
        clear hA15 hd15 hlog15 hst15' hn15 hO15
        have hB16 := (hB10.keeps hO13 (fun h => h)).keeps hO16 (fun h => h)
        have hv16 := (hv10.keepsN hO13 (fun _ _ h => h)).keepsN hO16 (fun _ _ h => h)
        have x0 : w16.cell? ⟨P10, 0, none⟩ = some (.int .u64 t0) := by rw [hB16.cell]; rfl
        have x1 : w16.cell? ⟨P10, 1, none⟩ = some (.int .i64 v0) := by rw [hB16.cell]; rfl
        have x2 : w16.cell? ⟨P10, 2, none⟩ = some (.int .u64 si) := by rw [hB16.cell]; rfl
        have x3 : w16.cell? ⟨P10, 3, none⟩ = some (.int .u64 sj) := by rw [hB16.cell]; rfl
        have x4 : w16.cell? ⟨P10, 4, none⟩ = some (.int .u64 sc) := by rw [hB16.cell]; rfl
        have x5 : w16.cell? ⟨P10, 5, none⟩ = some (.string sd) := by rw [hB16.cell]; rfl
        have x6 : w16.cell? ⟨P10, 6, none⟩ = some (.slice ao10 es.length cap10) := by rw [hB16.cell]; rfl
        have hlb : ∀ wx wy : World, EntsIn wx ao10 es → Only (fun k => k = d3 ∨ k = m3) wx wy → EntsIn wy ao10 es := by
          refine ents_old (N := m3) (fun a ha => ?_) (by omega) (by omega)
          by_cases he : es = []
          · exact .inl he
          · right
            obtain ⟨bb, off, e, h0, -⟩ := hv10.cell 0 (List.length_pos_iff.2 he)
            have := World.block_lt_of_cell? w10 _ h0
            rw [ha] at e
            cases e
            show bb < m3
            have hh : bb < w10.heap.size := this
            omega
        have HLB := Lib.hid hlb
        clear hlb
        have hz16 := hd16.files.lt
        go_wp2_with fail
        refine (sanew_as (c := ⟨⟨t0, v0⟩, ⟨si, sj, sc, sd⟩, es⟩) hhd hsw hv16 hd16 (by decide) hl16 hst16 (by omega) HLB.out (Nat.le_trans hsl (by decide)) HDAT.out (Nat.le_trans F2.out (by decide)) X3.out X4.out rfl).mono ?_
        rintro e w17 ⟨rfl, hd17, -, ho17⟩
        have hn17 : Only NoBlock w w17 := hn16.andThen ho17 (by rintro i hi (e | e | e) <;> omega)
        have hO17 : Only NoBlock w13 w17 := hO16.andThen ho17 (by rintro i hi (e | e | e) <;> omega)
        clear hn16 hO16 hd16 hl16 hst16 ho17 hB16 hv16 x0 x1 x2 x3 x4 x5 x6
        go_wp2_with fail
        refine (sopen_ok hd17 (by decide) (by omega) X5.out rfl X6.out).mono ?_
        rintro e w18 ⟨t18, g18, ao21, cap21, rfl, -, -, -, hv18, -, -, -, ho18⟩
        have hn18 : Only NoBlock w w18 := hn17.andThen ho18 (by rintro i hi (e | e) <;> omega)
        have hO18 : Only NoBlock w13 w18 := hO17.andThen ho18 (by rintro i hi (e | e) <;> omega)
        clear hn17 hO17 hd17 ho18
        simp only [stCells]
        simp only at hv18
        go_upto_region 20 with fail
        have hA18 := (Only.refl NoBlock w18).alloc (Obj.cells #[.int .u64 t0, .int .i64 v0, .int .u64 si, .int .u64 sj, .int .u64 sc, .string sd, .slice ao21 es.length cap21] 42)
        have hB19 := Blk.made w18 #[.int .u64 t0, .int .i64 v0, .int .u64 si, .int .u64 sj, .int .u64 sc, .string sd, .slice ao21 es.length cap21] 42
        have hv19 := hv18.keepsN hA18 (fun _ _ h => h)
        have hn19 := hn18.trans hA18
        have hO19 := hO18.trans hA18
        generalize w18.heap.size = P21 at hB19 ⊢
        generalize w18.alloc (Obj.cells #[.int .u64 t0, .int .i64 v0, .int .u64 si, .int .u64 sj, .int .u64 sc, .string sd, .slice ao21 es.length cap21] 42) = w19 at hB19 hv19 hn19 hO19 ⊢
        clear hA18 hn18 hO18 hv18
        have hBa := (hB10.keeps hO13 (fun h => h)).keeps hO19 (fun h => h)
        have hva := (hv10.keepsN hO13 (fun _ _ h => h)).keepsN hO19 (fun _ _ h => h)
        have hBb := hB13.keeps hO19 (fun h => h)
        have hvb := hv13.keepsN hO19 (fun _ _ h => h)
        have x0 : w19.cell? ⟨P10, 0, none⟩ = some (.int .u64 t0) := by rw [hBa.cell]; rfl
        have x1 : w19.cell? ⟨P10, 1, none⟩ = some (.int .i64 v0) := by rw [hBa.cell]; rfl
        have x2 : w19.cell? ⟨P10, 2, none⟩ = some (.int .u64 si) := by rw [hBa.cell]; rfl
        have x3 : w19.cell? ⟨P10, 3, none⟩ = some (.int .u64 sj) := by rw [hBa.cell]; rfl
        have x4 : w19.cell? ⟨P10, 4, none⟩ = some (.int .u64 sc) := by rw [hBa.cell]; rfl
        have x5 : w19.cell? ⟨P10, 5, none⟩ = some (.string sd) := by rw [hBa.cell]; rfl
        have x6 : w19.cell? ⟨P10, 6, none⟩ = some (.slice ao10 es.length cap10) := by rw [hBa.cell]; rfl
        go_upto_region 21 with fail
        have hA19 := (Only.refl NoBlock w19).alloc (Obj.cells #[.int .u64 t0, .int .i64 v0, .int .u64 si, .int .u64 sj, .int .u64 sc, .string sd, .slice ao10 es.length cap10] 50)
        have hB20 := Blk.made w19 #[.int .u64 t0, .int .i64 v0, .int .u64 si, .int .u64 sj, .int .u64 sc, .string sd, .slice ao10 es.length cap10] 50
        have hn20 := hn19.trans hA19
        have hva2 := hva.keepsN hA19 (fun _ _ h => h)
        have hvb2 := hvb.keepsN hA19 (fun _ _ h => h)
        have hv20 := hv19.keepsN hA19 (fun _ _ h => h)
        have hBb2 := hBb.keeps hA19 (fun h => h)
        have hB21 := hB19.keeps hA19 (fun h => h)
        generalize w19.heap.size = P23 at hB20 ⊢
        generalize w19.alloc (Obj.cells #[.int .u64 t0, .int .i64 v0, .int .u64 si, .int .u64 sj, .int .u64 sc, .string sd, .slice ao10 es.length cap10] 50) = w20 at hB20 hn20 hva2 hvb2 hv20 hBb2 hB21 ⊢
        clear hA19 hn19 hO19 hva hvb hv19 hBb hB19 hBa x0 x1 x2 x3 x4 x5 x6 hB10 hv10 hB13 hv13 hO13
        have x0 : w20.cell? ⟨P12, 0, none⟩ = some (.int .u64 t0) := by rw [hBb2.cell]; rfl
        have x1 : w20.cell? ⟨P12, 1, none⟩ = some (.int .i64 v0) := by rw [hBb2.cell]; rfl
        have x2 : w20.cell? ⟨P12, 2, none⟩ = some (.int .u64 si) := by rw [hBb2.cell]; rfl
        have x3 : w20.cell? ⟨P12, 3, none⟩ = some (.int .u64 sj) := by rw [hBb2.cell]; rfl
        have x4 : w20.cell? ⟨P12, 4, none⟩ = some (.int .u64 sc) := by rw [hBb2.cell]; rfl
        have x5 : w20.cell? ⟨P12, 5, none⟩ = some (.string sd) := by rw [hBb2.cell]; rfl
        have x6 : w20.cell? ⟨P12, 6, none⟩ = some (.slice ao12 es.length cap12) := by rw [hBb2.cell]; rfl
        have z0 : w20.cell? ⟨P23, 0, none⟩ = some (.int .u64 t0) := by rw [hB20.cell]; rfl
        have z1 : w20.cell? ⟨P23, 1, none⟩ = some (.int .i64 v0) := by rw [hB20.cell]; rfl
        have z2 : w20.cell? ⟨P23, 2, none⟩ = some (.int .u64 si) := by rw [hB20.cell]; rfl
        have z3 : w20.cell? ⟨P23, 3, none⟩ = some (.int .u64 sj) := by rw [hB20.cell]; rfl
        have z4 : w20.cell? ⟨P23, 4, none⟩ = some (.int .u64 sc) := by rw [hB20.cell]; rfl
        have z5 : w20.cell? ⟨P23, 5, none⟩ = some (.string sd) := by rw [hB20.cell]; rfl
        have z6 : w20.cell? ⟨P23, 6, none⟩ = some (.slice ao10 es.length cap10) := by rw [hB20.cell]; rfl
        go_wp2_with fail
        refine (same8_at w20 ⟨⟨t0, v0⟩, ⟨si, sj, sc, sd⟩, es⟩ ⟨⟨t0, v0⟩, ⟨si, sj, sc, sd⟩, es⟩ ao12 ao10 cap12 cap10 hvb2 hva2 (Nat.le_trans hsl (by decide)) (Nat.le_trans hsl (by decide))).mono ?_
        rintro e w21 ⟨he, ho21⟩
        rw [decide_eq_true (rfl : (⟨⟨t0, v0⟩, ⟨si, sj, sc, sd⟩, es⟩ : St) = ⟨⟨t0, v0⟩, ⟨si, sj, sc, sd⟩, es⟩)] at he
        subst he
        have hn21 := hn20.trans ho21
        have hva3 := hva2.keepsN ho21 (fun _ _ h => h)
        have hv21 := hv20.keepsN ho21 (fun _ _ h => h)
        have hB22 := hB21.keeps ho21 (fun h => h)
        have hB23 := hB20.keeps ho21 (fun h => h)
        clear hn20 hva2 hvb2 hv20 hBb2 hB21 hB20 ho21 x0 x1 x2 x3 x4 x5 x6 z0 z1 z2 z3 z4 z5 z6
        have x0 : w21.cell? ⟨P21, 0, none⟩ = some (.int .u64 t0) := by rw [hB22.cell]; rfl
        have x1 : w21.cell? ⟨P21, 1, none⟩ = some (.int .i64 v0) := by rw [hB22.cell]; rfl
        have x2 : w21.cell? ⟨P21, 2, none⟩ = some (.int .u64 si) := by rw [hB22.cell]; rfl
        have x3 : w21.cell? ⟨P21, 3, none⟩ = some (.int .u64 sj) := by rw [hB22.cell]; rfl
        have x4 : w21.cell? ⟨P21, 4, none⟩ = some (.int .u64 sc) := by rw [hB22.cell]; rfl
        have x5 : w21.cell? ⟨P21, 5, none⟩ = some (.string sd) := by rw [hB22.cell]; rfl
        have x6 : w21.cell? ⟨P21, 6, none⟩ = some (.slice ao21 es.length cap21) := by rw [hB22.cell]; rfl
        have z0 : w21.cell? ⟨P23, 0, none⟩ = some (.int .u64 t0) := by rw [hB23.cell]; rfl
        have z1 : w21.cell? ⟨P23, 1, none⟩ = some (.int .i64 v0) := by rw [hB23.cell]; rfl
        have z2 : w21.cell? ⟨P23, 2, none⟩ = some (.int .u64 si) := by rw [hB23.cell]; rfl
        have z3 : w21.cell? ⟨P23, 3, none⟩ = some (.int .u64 sj) := by rw [hB23.cell]; rfl
        have z4 : w21.cell? ⟨P23, 4, none⟩ = some (.int .u64 sc) := by rw [hB23.cell]; rfl
        have z5 : w21.cell? ⟨P23, 5, none⟩ = some (.string sd) := by rw [hB23.cell]; rfl
        have z6 : w21.cell? ⟨P23, 6, none⟩ = some (.slice ao10 es.length cap10) := by rw [hB23.cell]; rfl
        go_wp2_with fail
        refine (same8_at w21 ⟨⟨t0, v0⟩, ⟨si, sj, sc, sd⟩, es⟩ ⟨⟨t0, v0⟩, ⟨si, sj, sc, sd⟩, es⟩ ao21 ao10 cap21 cap10 hv21 hva3 (Nat.le_trans hsl (by decide)) (Nat.le_trans hsl (by decide))).mono ?_
        rintro e w22 ⟨he, ho22⟩
        rw [decide_eq_true (rfl : (⟨⟨t0, v0⟩, ⟨si, sj, sc, sd⟩, es⟩ : St) = ⟨⟨t0, v0⟩, ⟨si, sj, sc, sd⟩, es⟩)] at he
        subst he
        go_wp2_with fail
        go_ret
        exact ⟨rfl, hn21.trans ho22⟩
  · rw [decide_eq_false hlw] at he
    subst he
    go_wp2_with fail
    go_ret
    exact ⟨rfl, hn3⟩
theorem walk_StoreAgain {w : World} (x : List CallS × Option Addr × Nat) (hx : CallsS w x.2.1 x.1) :
    Calls Try.prog 6 #[.slice x.2.1 x.1.length x.2.2] w fun e w' => e = .returned (.bool true) ∧ Below w.heap.size w w' :=
  (walk_Again x.2.1 x.2.2 x.1 hx).mono fun e w' ⟨he, ho⟩ => ⟨he, ho.below (Nat.le_refl _) (fun _ h => h.elim)⟩
end Go.Proofs.Ytekmjhenhgmpgaa

/- The statement StoreAgain: for every input the law returns true, and each argument reads afterwards as before. Frame of the walk in LawStoreAgain. -/
namespace Go.Proofs.Ytekmjhenhgmpgaa.storeAgain
open Go.ChangeShapes Go.WideShapes Go.ChangeAt Go.RowKit
open Go.ChangeMaps (open_string shut_string)
set_option linter.unusedVariables false

theorem own : ownKnob Try.prog.godebug = none := by kernel_rfl
theorem laidOut : laidOutB Try.prog = true := by kernel_rfl
theorem ub : Try.prog.underlying 4 = some .bool := by kernel_rfl

set_option maxRecDepth 100000 in
theorem lifted (os : Os) (started : os.Started) (H : Type) (enc : TypeId × Value → H) (F : Stop.Interp) :
    ReturnsInHanded {} Try.checked os 6 .any ((Rows.OpenSpec.upto Rows.storeAgainSpec).pre6 enc Try.prog Try.f6 Rows.storeAgainUptoRow.domain false) (((Rows.OpenSpec.upto Rows.storeAgainSpec).at F).post enc Try.prog Try.f6 false true false false) := by
  refine returnsInHanded_of_cond (C := Try.checked) (s := Rows.OpenSpec.upto Rows.storeAgainSpec) (k := Rows.uptoSmall) rfl own started (by kernel_rfl) Try.func6
    (OpenSpec.witness (enc := enc) (C := Try.checked) (s := Rows.OpenSpec.upto Rows.storeAgainSpec) (k := Rows.uptoSmall) rfl false ⟨#[], #[.slice none 0 0], []⟩ 8 (by kernel_rfl) (by kernel_rfl) (by kernel_rfl)
      (x := ([.nil], [], [])) (by kernel_rfl) rfl (by kernel_rfl)) ?_
  intro W base args ds gs before hval0 hW hcnd hk0 _
  show Calls Try.prog 6 args W fun e W' => ∃ v, e = .returned v ∧ Rows.storeAgainSpec.post enc Try.prog Try.f6 false true false false W args v W'
  have hk : Rows.uptoBulkAll (ds ++ gs) ≤ 1048576 := of_decide_eq_true hk0
  have hval : ∀ (j : Nat) t v, Try.f6.params[j]? = some t → args[j]? = some v → Value.okWide Try.prog W .any base t v := hval0
  have hW' := hW
  obtain ⟨p, q, hA0, hV, rfl, hfz, hnd⟩ := hW
  have hA : DataW.TrodAll enc Try.prog W 0 (fun _ => true) true Try.f6.params.toList args.toList ds p := hA0
  rw [Try.params6] at hA hval
  obtain ⟨v0, vs0, d0, ds0, p0, q0, hargs, rfl, rfl, h0, r0⟩ := trodAll_cons hA
  obtain ⟨rfl, rfl, rfl⟩ := trodAll_nil r0
  obtain rfl : args = #[v0] := by cases args; simp_all
  obtain ⟨rfl, rfl⟩ := trodVars_none hV
  have k0 := h0
  have lt0 : ∀ x ∈ p0, x.block < W.heap.size := by obtain ⟨m, hm⟩ := k0; exact DataW.trod_lt m _ _ _ hm
  simp only [Rows.uptoBulkAll, List.cons_append, List.nil_append, List.append_nil] at hk
  have b0 : Rows.uptoBulk d0 ≤ 1048576 := by omega
  clear hk
  obtain ⟨a0, rfl, w0⟩ := open_calls8 (hval 0 55 v0 rfl rfl) h0 b0
  clear hA0 hval0
  refine (walk_StoreAgain (w := W) a0 w0).mono fun e W' ⟨he, bel⟩ => ?_
  subst he
  exact ⟨_, rfl, _, _, _, [], _, [], hW', trodAll_mk1 (shut_bool ub _), (trodAll_cons_mk (Below.trod laidOut (by kernel_rfl) (of_decide_eq_true (by kernel_rfl)) k0 bel lt0) trodAll_mk0), rfl, bel.frame _, fun h => by cases h⟩

theorem proved : Rows.StoreAgainUptoSaid :=
  OpenClaim.holds_of_cond 6 Try.f6 rfl rfl rfl rfl rfl rfl rfl ⟨rfl, rfl, rfl, rfl, rfl⟩ rfl rfl rfl rfl rfl (by kernel_rfl) Try.func6 (by kernel_rfl)
    (of_decide_eq_true (by kernel_rfl)) (by unfold Func.isWrapper; first | (rw [if_pos (by decide +kernel)]; kernel_rfl) | (rw [if_neg (by decide +kernel)]; exact ⟨rfl, rfl⟩))
    (fun os started H enc _ F => lifted os started H enc F)
#print axioms proved
end Go.Proofs.Ytekmjhenhgmpgaa.storeAgain
