/- The statement StoreLasts: its walk and its frame. -/
import Derived.Test.YtekmjhenhgmpgaaMH
import Derived.Deep.CutBlock
import Derived.Test.YtekmjhenhgmpgaaRows
import Derived.JoinedCond
import Derived.WalkKit
import Derived.ProofKit
import Derived.OpenShut
import Derived.ShutString
import Derived.ChangeOld
import Derived.Below

/- Behind a crash there is the state of the last call that was answered, or what some first records of the next one make of it: the walk of the law. -/
namespace Go.Proofs.Ytekmjhenhgmpgaa
open Go.RowKit
set_option maxRecDepth 100000

set_option maxHeartbeats 8000000 in
theorem walk_Lasts {w : World} (ao : Option Addr) (cap : Nat) (l : List CallS) (hl : CallsS w ao l) (fuel : Int) (hwf : (Lit.int .i64 fuel).wf = true) (keep : Int) (hwk : (Lit.int .i64 keep).wf = true) :
    Calls Try.prog 5 #[.slice ao l.length cap, .int .i64 fuel, .int .i64 keep] w fun e w' => e = .returned (.bool true) ∧ Only NoBlock w w' := by
  have hlen := hl.len
  have hwb := wf_both hwf
  go_enter Try.func5, Try.ntmps5
  go_wp2_with fail
  refine (begun8_ok w).mono ?_
  rintro e w2 ⟨rfl, hn2⟩
  go_wp2_with fail
  refine (light_at w2 ao cap l (hl.keeps hn2)).mono ?_
  rintro e w3 ⟨he, ho3⟩
  have hn3 := hn2.trans ho3
  clear hn2 ho3
  by_cases hlw : Lt.lw l ≤ 400
  · rw [decide_eq_true hlw] at he
    subst he
    have HLW := Lib.hid hlw
    clear hlw
    go_wp2_with fail
    refine (new_ok w3 1048576 (by omega) (by omega)).mono ?_
    rintro e w4 ⟨rfl, hd4, ho4, hs4⟩
    have hn4 := hn3.trans ho4
    obtain ⟨mb, hmb⟩ : ∃ mb, w3.heap.size = mb := ⟨_, rfl⟩
    rw [hmb] at hd4 hs4 ⊢
    obtain ⟨d, hd⟩ : ∃ d, mb + 1 = d := ⟨_, rfl⟩
    rw [hd] at hd4 ⊢
    have hz3 := hn3.size
    have hwd : w.heap.size ≤ mb := by omega
    have hz4 : mb < w4.heap.size := by omega
    clear hn3 hs4 hmb ho4
    have hwdd : w.heap.size ≤ d := by omega
    clear hd
    go_wp2_with fail
    obtain ⟨q1, q2, q3⟩ := Sto.open_new
    refine (sopen_ok hd4 (by decide) (by omega) q1 q2 q3).mono ?_
    rintro e w5 ⟨t, g, ao5, cap5, rfl, ht5, hlog5, hst5, -, -, -, hd5, ho5⟩
    clear q1 q2 q3
    have hn5 : Only NoBlock w w5 := hn4.andThen ho5 (by rintro i hi (e | e) <;> omega)
    have hst5' := hst5.lower (b' := mb) (by omega)
    have hwt : w.heap.size ≤ t := by omega
    clear hn4 ho5 hd4 hst5
    simp only [stCells, Sto.first, List.length_nil]
    go_upto_region 7 with fail
    have hA5 := (Only.refl NoBlock w5).alloc (Obj.cells #[.int .u64 0, .int .i64 (-1), .int .u64 0, .int .u64 0, .int .u64 7, .string ByteArray.empty, .slice ao5 0 cap5] 42)
    have hd6 := hd5.keeps hA5 (fun h => h) (fun h => h)
    have hl6 : LogAt _ g d 0 := Blk.keeps hlog5 hA5 (fun h => h)
    have hst6 := hst5'.keeps hA5 (fun h => h) (fun _ _ h => h)
    have hn6 := hn5.trans hA5
    generalize w5.alloc (Obj.cells #[.int .u64 0, .int .i64 (-1), .int .u64 0, .int .u64 0, .int .u64 7, .string ByteArray.empty, .slice ao5 0 cap5] 42) = w6 at hd6 hl6 hst6 hn6 ⊢
    clear hA5 hn5 hd5 hlog5 hst5' hz4 ht5
    generalize w5.heap.size = P5
    have hgd := LogAt.apart hl6 hd6
    have htg := hst6.apart hl6 (by decide)
    have htd := hst6.apartM hd6
    go_wp2_with fail
    refine (fuel_at w6 d mb _ fuel (by omega) hd6).mono ?_
    rintro e w7 ⟨rfl, hd7, ho7⟩
    have hl7 : LogAt w7 g d 0 := Blk.keeps hl6 ho7 (fun e => e.elim hgd.1 hgd.2)
    have hst7 := hst6.keepsD hd6 ho7
    have hn7 := hn6.andThen ho7 (by rintro i hi (e | e) <;> omega)
    clear hd6 hl6 hst6 hn6 ho7
    obtain ⟨F0, hF0, hF1, hF2⟩ : ∃ F0, (Sto.D ByteArray.empty).setFuel fuel = Sto.DF ByteArray.empty ByteArray.empty F0 false ∧ -1 ≤ F0 ∧ F0 ≤ 9223372036854775807 := ⟨_, rfl, by split <;> omega, by split <;> omega⟩
    rw [hF0] at hd7
    clear hF0
    go_wp2_with fail
    refine (rfirst8_at w7 7).mono ?_
    rintro e w8 ⟨rfl, ho8⟩
    have hd8 := hd7.keeps ho8 (fun h => h) (fun h => h)
    have hl8 : LogAt w8 g d 0 := Blk.keeps hl7 ho8 (fun h => h)
    have hst8 := hst7.keeps ho8 (fun h => h) (fun _ _ h => h)
    have hn8 := hn7.trans ho8
    clear hd7 hl7 hst7 hn7 ho8
    have hI8 := Lib.hid Sto.Iv.start
    have hz8 := hn8.size
    have hM9 := Mays.one w8 w.heap.size ⟨Sto.first 7, none, 0⟩ hz8 (EntsIn.nil _ _)
    go_upto_block 0 with (fail)
    have hA8 := (Only.refl NoBlock w8).alloc (Obj.cells #[.int .u64 0, .int .i64 (-1), .int .u64 0, .int .u64 0, .int .u64 7, .string { data := #[] }, .slice none 0 0] 50)
    have hd9 := hd8.keeps hA8 (fun h => h) (fun h => h)
    have hl9 : LogAt _ g d 0 := Blk.keeps hl8 hA8 (fun h => h)
    have hst9 := hst8.keeps hA8 (fun h => h) (fun _ _ h => h)
    have hn9 := hn8.trans hA8
    have hM9' : Mays (w8.alloc (Obj.cells #[.int .u64 0, .int .i64 (-1), .int .u64 0, .int .u64 0, .int .u64 7, .string { data := #[] }, .slice none 0 0] 50)) w.heap.size (.slice (some ⟨w8.heap.size, 0, none⟩) 1 1) [⟨Sto.first 7, none, 0⟩] := hM9
    clear hM9 hz8
    generalize w8.alloc (Obj.cells #[.int .u64 0, .int .i64 (-1), .int .u64 0, .int .u64 0, .int .u64 7, .string { data := #[] }, .slice none 0 0] 50) = w9 at hd9 hl9 hst9 hn9 hM9' ⊢
    generalize w8.heap.size = P9 at hM9' ⊢
    clear hA8 hd8 hl8 hst8 hn8
    go_cut [12] (fun v12 wx => ∃ (W : World) (M : DM) (ms : List MSt), W = wx ∧ Mays wx w.heap.size v12 ms ∧ 0 < ms.length ∧ DiskAt wx d mb M ∧ Only NoBlock w wx ∧ RowKit.Hid (Sto.LastP M ms keep))
    case first =>
      go_wp2_with fail
      go_loopw [12, 51] (fun u12 u51 wr => ∃ (k : Nat) (A : ByteArray) (x : MSt) (F : Int), k ≤ l.length ∧ u51 = .int .i64 k ∧ Mays wr w.heap.size u12 [x] ∧ DiskAt wr d mb (Sto.DF A ByteArray.empty F false) ∧ LogAt wr g d 0 ∧ StoreAt wr mb t g x.s ∧ RowKit.Hid (Sto.Iv A x.s (Lt.lw (l.take k))) ∧ -1 ≤ F ∧ F ≤ 9223372036854775807 ∧ Only NoBlock w wr) (fun _ u51 _ => l.length - (intOf u51).toNat)
      case atStart => exact ⟨0, _, _, F0, by omega, rfl, hM9', hd9, hl9, hst9, hI8, hF1, hF2, hn9⟩
      case round =>
        clear hM9' hd9 hl9 hst9 hI8 hF1 hF2 hn9
        obtain ⟨k, A, ⟨⟨⟨t0, v0⟩, ⟨si, sj, sc, sd⟩, es⟩, aoS, capS⟩, F, hk, rfl, hM10, hd10, hl10, hst10, HI, hF1, hF2, hn10⟩ := hrel
        simp only at hst10
        by_cases hlt : k < l.length
        · obtain ⟨mB, mc, rfl, hmc⟩ := hM10.shape (by simp)
          simp only [List.length_cons, List.length_nil, Nat.zero_add] at hM10 hmc ⊢
          have hmcell := Mays.cell (ms := [⟨⟨⟨t0, v0⟩, ⟨si, sj, sc, sd⟩, es⟩, aoS, capS⟩]) (g := mB) (cap := mc) hM10 (i := 0) (by simp)
          have m0 : wr.cell? ⟨mB, 0, none⟩ = some (.int .u64 t0) := by have h := hmcell 0 (by decide); simpa [MSt.cells] using h
          have m1 : wr.cell? ⟨mB, 1, none⟩ = some (.int .i64 v0) := by have h := hmcell 1 (by decide); simpa [MSt.cells] using h
          have m2 : wr.cell? ⟨mB, 2, none⟩ = some (.int .u64 si) := by have h := hmcell 2 (by decide); simpa [MSt.cells] using h
          have m3 : wr.cell? ⟨mB, 3, none⟩ = some (.int .u64 sj) := by have h := hmcell 3 (by decide); simpa [MSt.cells] using h
          have m4 : wr.cell? ⟨mB, 4, none⟩ = some (.int .u64 sc) := by have h := hmcell 4 (by decide); simpa [MSt.cells] using h
          have m5 : wr.cell? ⟨mB, 5, none⟩ = some (.string sd) := by have h := hmcell 5 (by decide); simpa [MSt.cells] using h
          have m6 : wr.cell? ⟨mB, 6, none⟩ = some (.slice aoS es.length capS) := by have h := hmcell 6 (by decide); simpa [MSt.cells] using h
          have hin10 := hM10.ents _ (List.mem_singleton.2 rfl)
          simp only at hin10
          clear hmcell
          have hl10c := hl.keeps hn10
          obtain ⟨b, off, rfl, hc⟩ := hl10c.call k hlt
          obtain ⟨c0, c1, c2, c3, c4, c5, c6, c7⟩ := hc
          have hfew := hl.few k hlt
          have hdat := hl.dat k hlt
          have hsdat := hl.sdat k hlt
          have hhd := hl.hard k hlt
          have hsw := hl.snap k hlt
          have hold := hl.old k hlt
          have hin := hl10c.ents k hlt
          have hsn := Lt.lw_snoc hlt
          have htk := Sto.lw_take_le l (k + 1)
          have hlw := HLW.out
          have hcw : Lt.cw (l.getD k CallS.zero) = 1 + (l.getD k CallS.zero).es.length + (l.getD k CallS.zero).snap.data.size / 50 + Lt.es (l.getD k CallS.zero).es := rfl
          clear hl10c
          generalize l.getD k CallS.zero = c at *
          obtain ⟨ca, ⟨ct, cv⟩, ⟨ci, cj, cc, cd⟩, ao2, cap2, cl⟩ := c
          simp only at c0 c1 c2 c3 c4 c5 c6 c7 hfew hdat hsdat hhd hsw hold hin hcw
          have hm : Lt.lw (l.take k) + (1 + cl.length + cd.size / 50 + Lt.es cl) ≤ 400 := by omega
          have hsl := HI.out.len
          simp only at hsl
          have hsl2 : es.length ≤ 1200 := by omega
          have HOLD := Lib.hid hold
          have HM := Lib.hid hm
          have HSN : RowKit.Hid (Lt.lw (l.take (k + 1)) = Lt.lw (l.take k) + (1 + cl.length + cd.size / 50 + Lt.es cl)) := Lib.hid (by omega)
          have HDAT : RowKit.Hid (∀ e ∈ cl, e.data.size ≤ 1000000000) := Lib.hid (fun e he => Nat.le_trans (hdat e he) (by decide))
          have HHD := Lib.hid hhd
          have HSW := Lib.hid hsw
          have hcl2 : cl.length ≤ 400 := by omega
          clear hsl hcw htk hsn hold hm hdat hhd hsw hlw hfew
          have hAc := (Only.refl NoBlock wr).alloc (Obj.cells #[.bool ca, .int .u64 ct, .int .i64 cv, .int .u64 ci, .int .u64 cj, .int .u64 cc, .string cd, .slice ao2 cl.length cap2] 58)
          have hbc := Blk.made wr #[.bool ca, .int .u64 ct, .int .i64 cv, .int .u64 ci, .int .u64 cj, .int .u64 cc, .string cd, .slice ao2 cl.length cap2] 58
          go_upto_region 14 with fail
          have hd11 := hd10.keeps hAc (fun h => h) (fun h => h)
          have hl11 : LogAt _ g d 0 := Blk.keeps hl10 hAc (fun h => h)
          have hst11 := hst10.keeps hAc (fun h => h) (fun _ _ h => h)
          have hM11 := hM10.keepsN hAc
          have hin11 := hin10.keeps hAc (fun _ _ h => h)
          have hci11 := hin.keeps hAc (fun _ _ h => h)
          have hn11 := hn10.trans hAc
          have mm0 := cell_keep hAc m0
          have mm1 := cell_keep hAc m1
          have mm2 := cell_keep hAc m2
          have mm3 := cell_keep hAc m3
          have mm4 := cell_keep hAc m4
          have mm5 := cell_keep hAc m5
          have mm6 := cell_keep hAc m6
          generalize wr.heap.size = Pc at hbc ⊢
          generalize wr.alloc (Obj.cells #[.bool ca, .int .u64 ct, .int .i64 cv, .int .u64 ci, .int .u64 cj, .int .u64 cc, .string cd, .slice ao2 cl.length cap2] 58) = w11 at hd11 hl11 hst11 hM11 hin11 hci11 hn11 hbc mm0 mm1 mm2 mm3 mm4 mm5 mm6 ⊢
          clear c0 c1 c2 c3 c4 c5 c6 c7 hAc hd10 hl10 hst10 hM10 hin10 hin hn10 m0 m1 m2 m3 m4 m5 m6
          have hAs := (Only.refl NoBlock w11).alloc (Obj.cells #[.int .u64 t0, .int .i64 v0, .int .u64 si, .int .u64 sj, .int .u64 sc, .string sd, .slice aoS es.length capS] 50)
          have hbs := Blk.made w11 #[.int .u64 t0, .int .i64 v0, .int .u64 si, .int .u64 sj, .int .u64 sc, .string sd, .slice aoS es.length capS] 50
          go_upto_region 15 with fail
          have hd12 := hd11.keeps hAs (fun h => h) (fun h => h)
          have hl12 : LogAt _ g d 0 := Blk.keeps hl11 hAs (fun h => h)
          have hst12 := hst11.keeps hAs (fun h => h) (fun _ _ h => h)
          have hM12 := hM11.keepsN hAs
          have hin12 := hin11.keeps hAs (fun _ _ h => h)
          have hci12 := hci11.keeps hAs (fun _ _ h => h)
          have hn12 := hn11.trans hAs
          have hbc12 := hbc.keeps hAs (fun h => h)
          have hmps : Value.ownBlock (.slice (some ⟨mB, 0, none⟩) 1 mc) ≠ some w11.heap.size := fun e => by have h1 := (World.ownsRow.lt hM11.own mB rfl).2; have h2 : mB = w11.heap.size := (by simpa [Value.ownBlock] using e); omega
          generalize w11.heap.size = Ps at hbs hmps ⊢
          generalize w11.alloc (Obj.cells #[.int .u64 t0, .int .i64 v0, .int .u64 si, .int .u64 sj, .int .u64 sc, .string sd, .slice aoS es.length capS] 50) = w12 at hd12 hl12 hst12 hM12 hin12 hci12 hn12 hbs hbc12 ⊢
          clear hAs hd11 hl11 hst11 hM11 hin11 hci11 hn11 hbc mm0 mm1 mm2 mm3 mm4 mm5 mm6
          have c0 : w12.cell? ⟨Pc, 0, none⟩ = some (.bool ca) := by rw [hbc12.cell]; rfl
          have c1 : w12.cell? ⟨Pc, 1, none⟩ = some (.int .u64 ct) := by rw [hbc12.cell]; rfl
          have c2 : w12.cell? ⟨Pc, 2, none⟩ = some (.int .i64 cv) := by rw [hbc12.cell]; rfl
          have c3 : w12.cell? ⟨Pc, 3, none⟩ = some (.int .u64 ci) := by rw [hbc12.cell]; rfl
          have c4 : w12.cell? ⟨Pc, 4, none⟩ = some (.int .u64 cj) := by rw [hbc12.cell]; rfl
          have c5 : w12.cell? ⟨Pc, 5, none⟩ = some (.int .u64 cc) := by rw [hbc12.cell]; rfl
          have c6 : w12.cell? ⟨Pc, 6, none⟩ = some (.string cd) := by rw [hbc12.cell]; rfl
          have c7 : w12.cell? ⟨Pc, 7, none⟩ = some (.slice ao2 cl.length cap2) := by rw [hbc12.cell]; rfl
          have hAt := (Only.refl NoBlock w12).alloc (Obj.cells #[.int .u64 ct, .int .i64 cv, .int .u64 ci, .int .u64 cj, .int .u64 cc, .string cd, .slice ao2 cl.length cap2] 50)
          have hbt := Blk.made w12 #[.int .u64 ct, .int .i64 cv, .int .u64 ci, .int .u64 cj, .int .u64 cc, .string cd, .slice ao2 cl.length cap2] 50
          go_upto_region 16 with fail
          have hd13 := hd12.keeps hAt (fun h => h) (fun h => h)
          have hl13 : LogAt _ g d 0 := Blk.keeps hl12 hAt (fun h => h)
          have hst13 := hst12.keeps hAt (fun h => h) (fun _ _ h => h)
          have hM13 := hM12.keepsN hAt
          have hin13 := hin12.keeps hAt (fun _ _ h => h)
          have hci13 := hci12.keeps hAt (fun _ _ h => h)
          have hn13 := hn12.trans hAt
          have hbc13 := hbc12.keeps hAt (fun h => h)
          have hbs13 := hbs.keeps hAt (fun h => h)
          generalize w12.heap.size = Pt at hbt ⊢
          generalize w12.alloc (Obj.cells #[.int .u64 ct, .int .i64 cv, .int .u64 ci, .int .u64 cj, .int .u64 cc, .string cd, .slice ao2 cl.length cap2] 50) = w13 at hd13 hl13 hst13 hM13 hin13 hci13 hn13 hbt hbc13 hbs13 ⊢
          clear hAt hd12 hl12 hst12 hM12 hin12 hci12 hn12 hbc12 hbs c0 c1 c2 c3 c4 c5 c6 c7
          have c0 : w13.cell? ⟨Pc, 0, none⟩ = some (.bool ca) := by rw [hbc13.cell]; rfl
          have c1 : w13.cell? ⟨Pc, 1, none⟩ = some (.int .u64 ct) := by rw [hbc13.cell]; rfl
          have c2 : w13.cell? ⟨Pc, 2, none⟩ = some (.int .i64 cv) := by rw [hbc13.cell]; rfl
          have c3 : w13.cell? ⟨Pc, 3, none⟩ = some (.int .u64 ci) := by rw [hbc13.cell]; rfl
          have c4 : w13.cell? ⟨Pc, 4, none⟩ = some (.int .u64 cj) := by rw [hbc13.cell]; rfl
          have c5 : w13.cell? ⟨Pc, 5, none⟩ = some (.int .u64 cc) := by rw [hbc13.cell]; rfl
          have c6 : w13.cell? ⟨Pc, 6, none⟩ = some (.string cd) := by rw [hbc13.cell]; rfl
          have c7 : w13.cell? ⟨Pc, 7, none⟩ = some (.slice ao2 cl.length cap2) := by rw [hbc13.cell]; rfl
          have hz13 := hd13.files.lt
          cases ca with
          | true =>
            have hcase := Sto.anew_F (c := ⟨⟨ct, cv⟩, ⟨ci, cj, cc, cd⟩, cl⟩) HI.out HHD.out HSW.out hci13.wf HM.out hF1 hF2
            obtain ⟨E, hE⟩ : ∃ E, Sto.anewE (Sto.DF A ByteArray.empty F false) 0 ⟨⟨ct, cv⟩, ⟨ci, cj, cc, cd⟩, cl⟩ = E := ⟨_, rfl⟩
            obtain ⟨M', hM'⟩ : ∃ M', Sto.anewM (Sto.DF A ByteArray.empty F false) 0 ⟨⟨ct, cv⟩, ⟨ci, cj, cc, cd⟩, cl⟩ = M' := ⟨_, rfl⟩
            obtain ⟨s', hs'⟩ : ∃ s', Sto.anewS (Sto.DF A ByteArray.empty F false) 0 ⟨⟨t0, v0⟩, ⟨si, sj, sc, sd⟩, es⟩ ⟨⟨ct, cv⟩, ⟨ci, cj, cc, cd⟩, cl⟩ = s' := ⟨_, rfl⟩
            have HO : RowKit.Hid ((Wal.text (Sto.anewR ⟨⟨ct, cv⟩, ⟨ci, cj, cc, cd⟩, cl⟩)).size ≤ 1000000000) := Lib.hid (by have := (Sto.anewR_short (s := ⟨⟨ct, cv⟩, ⟨ci, cj, cc, cd⟩, cl⟩) HHD.out HSW.out hci13.wf (by have := HM.out; (try simp only); omega) (by have := HM.out; (try simp only); omega)).2; simp only at this; have := HM.out; omega)
            have HCASE := Lib.hid hcase
            have HE := Lib.hid hE
            have HM' := Lib.hid hM'
            have HS' := Lib.hid hs'
            clear hcase hE hM' hs'
            go_wp2_with fail
            refine (sanew_as (c := ⟨⟨ct, cv⟩, ⟨ci, cj, cc, cd⟩, cl⟩) HHD.out HSW.out hci13 hd13 (by decide) hl13 hst13 (Nat.le_of_lt hz13) (ents_old HOLD.out hwdd hwd) (by (try simp only); omega) HDAT.out HO.out HE.out HM'.out HS'.out).mono ?_
            rintro e w14 ⟨rfl, hd14, hst14, ho14⟩
            have hn14 : Only NoBlock w w14 := hn13.andThen ho14 (by rintro i hi (e | e | e) <;> omega)
            have hl14 : LogAt w14 g d 0 := Blk.keeps hl13 ho14 (fun e => e.elim hgd.1 (fun e => e.elim hgd.2 (fun e => htg e.symm)))
            have hM14 := hM13.keepsP hd13 hst13 ho14
            have hci14 := hci13.keepsP hd13 hst13 ho14
            have hbc14 := hbc13.keepsP hd13 hst13 (by decide) (by decide) ho14
            have hbt14 := hbt.keepsP hd13 hst13 (by decide) (by decide) ho14
            clear hd13 hl13 hst13 hM13 hin13 hci13 hn13 hbc13 hbs13 hbt c0 c1 c2 c3 c4 c5 c6 c7 ho14 hz13 
            have c0 : w14.cell? ⟨Pc, 0, none⟩ = some (.bool true) := by rw [hbc14.cell]; rfl
            have c1 : w14.cell? ⟨Pc, 1, none⟩ = some (.int .u64 ct) := by rw [hbc14.cell]; rfl
            have c2 : w14.cell? ⟨Pc, 2, none⟩ = some (.int .i64 cv) := by rw [hbc14.cell]; rfl
            have c3 : w14.cell? ⟨Pc, 3, none⟩ = some (.int .u64 ci) := by rw [hbc14.cell]; rfl
            have c4 : w14.cell? ⟨Pc, 4, none⟩ = some (.int .u64 cj) := by rw [hbc14.cell]; rfl
            have c5 : w14.cell? ⟨Pc, 5, none⟩ = some (.int .u64 cc) := by rw [hbc14.cell]; rfl
            have c6 : w14.cell? ⟨Pc, 6, none⟩ = some (.string cd) := by rw [hbc14.cell]; rfl
            have c7 : w14.cell? ⟨Pc, 7, none⟩ = some (.slice ao2 cl.length cap2) := by rw [hbc14.cell]; rfl
            rcases HCASE.out with ⟨h1, h2, h3⟩ | ⟨A', G, h1, h2, g1, g2, h3, hI'⟩ | ⟨h1, h2⟩
            · rw [HE.out] at h1; rw [HM'.out] at h2; rw [HS'.out] at h3
              subst h1 h2 h3
              have HI2 := Lib.hid (HI.out.more (n := Lt.lw (l.take (k + 1))) (by have := HSN.out; omega))
              clear HCASE HE HM' HS' HO hbc14 hbt14
              go_wp2_with fail
              go_roundw
              case rel =>
                first
                  | exact ⟨k + 1, A, ⟨⟨⟨t0, v0⟩, ⟨si, sj, sc, sd⟩, es⟩, aoS, capS⟩, F, by omega, by go_num, hM14, hd14, hl14, hst14, HI2, hF1, hF2, hn14⟩
                  | ((repeat apply Exists.intro); exact ⟨⟨k + 1, A, ⟨⟨⟨t0, v0⟩, ⟨si, sj, sc, sd⟩, es⟩, aoS, capS⟩, F, by omega, by go_num, hM14, hd14, hl14, hst14, HI2, hF1, hF2, hn14⟩, rfl⟩)
              case measure => simp [intOf]; omega
            · rw [HE.out] at h1; rw [HM'.out] at h2; rw [HS'.out] at h3
              subst h1 h2 h3
              have HI2 := Lib.hid (hI'.more (n := Lt.lw (l.take (k + 1))) (by have := HSN.out; (try simp only); omega))
              clear HCASE HE HM' HS' HO hbc14 hI'
              have x0 : w14.cell? ⟨Pt, 0, none⟩ = some (.int .u64 ct) := by rw [hbt14.cell]; rfl
              have x1 : w14.cell? ⟨Pt, 1, none⟩ = some (.int .i64 cv) := by rw [hbt14.cell]; rfl
              have x2 : w14.cell? ⟨Pt, 2, none⟩ = some (.int .u64 ci) := by rw [hbt14.cell]; rfl
              have x3 : w14.cell? ⟨Pt, 3, none⟩ = some (.int .u64 cj) := by rw [hbt14.cell]; rfl
              have x4 : w14.cell? ⟨Pt, 4, none⟩ = some (.int .u64 cc) := by rw [hbt14.cell]; rfl
              have x5 : w14.cell? ⟨Pt, 5, none⟩ = some (.string cd) := by rw [hbt14.cell]; rfl
              have x6 : w14.cell? ⟨Pt, 6, none⟩ = some (.slice ao2 cl.length cap2) := by rw [hbt14.cell]; rfl
              have hz14 := hn14.size
              have hM15 := Mays.one w14 w.heap.size ⟨⟨⟨ct, cv⟩, ⟨ci, cj, cc, cd⟩, cl⟩, ao2, cap2⟩ hz14 hci14
              have hA14 := (Only.refl NoBlock w14).alloc (Obj.cells #[.int .u64 ct, .int .i64 cv, .int .u64 ci, .int .u64 cj, .int .u64 cc, .string cd, .slice ao2 cl.length cap2] 50)
              simp only at hM15
              go_wp2_with fail
              go_roundw
              case rel =>
                first
                  | exact ⟨k + 1, A', ⟨⟨⟨ct, cv⟩, ⟨ci, cj, cc, cd⟩, cl⟩, ao2, cap2⟩, G, by omega, by go_num, hM15, hd14.keeps hA14 (fun h => h) (fun h => h), Blk.keeps hl14 hA14 (fun h => h), hst14.keeps hA14 (fun h => h) (fun _ _ h => h), HI2, g1, g2, hn14.trans hA14⟩
                  | ((repeat apply Exists.intro); exact ⟨⟨k + 1, A', ⟨⟨⟨ct, cv⟩, ⟨ci, cj, cc, cd⟩, cl⟩, ao2, cap2⟩, G, by omega, by go_num, hM15, hd14.keeps hA14 (fun h => h) (fun h => h), Blk.keeps hl14 hA14 (fun h => h), hst14.keeps hA14 (fun h => h) (fun _ _ h => h), HI2, g1, g2, hn14.trans hA14⟩, rfl⟩)
              case measure => simp [intOf]; omega
            · rw [HE.out] at h1; rw [HM'.out] at h2
              subst h1 h2
              have HL := Lib.hid (Sto.LastP.firm (x := ⟨⟨⟨t0, v0⟩, ⟨si, sj, sc, sd⟩, es⟩, aoS, capS⟩) HI.out (by have := HM.out; omega) 0 true keep)
              clear HCASE HE HM' HS' HO hbc14 hbt14
              go_wp2_with fail
              go_meet
              exact ⟨w14, _, [⟨⟨⟨t0, v0⟩, ⟨si, sj, sc, sd⟩, es⟩, aoS, capS⟩], rfl, hM14, by simp, hd14, hn14, HL⟩
          | false =>
            have hcase := Sto.save_F (h := ⟨ct, cv⟩) (l := cl) HI.out HHD.out hci13.wf (by have := HM.out; omega) hF1 hF2
            obtain ⟨E, hE⟩ : ∃ E, Sto.saveE (Sto.DF A ByteArray.empty F false) 0 ⟨⟨t0, v0⟩, ⟨si, sj, sc, sd⟩, es⟩ ⟨ct, cv⟩ cl = E := ⟨_, rfl⟩
            obtain ⟨M', hM'⟩ : ∃ M', Sto.saveM (Sto.DF A ByteArray.empty F false) 0 ⟨⟨t0, v0⟩, ⟨si, sj, sc, sd⟩, es⟩ ⟨ct, cv⟩ cl = M' := ⟨_, rfl⟩
            obtain ⟨s', hs'⟩ : ∃ s', Sto.saveS (Sto.DF A ByteArray.empty F false) 0 ⟨⟨t0, v0⟩, ⟨si, sj, sc, sd⟩, es⟩ ⟨ct, cv⟩ cl = s' := ⟨_, rfl⟩
            have HOS := Lib.hid (Sto.out_short (s := ⟨⟨t0, v0⟩, ⟨si, sj, sc, sd⟩, es⟩) (h := ⟨ct, cv⟩) (l := cl) HHD.out hci13.wf (by have := HM.out; omega))
            have HO : RowKit.Hid ((Wal.text (Sto.out ⟨⟨t0, v0⟩, ⟨si, sj, sc, sd⟩, es⟩ ⟨ct, cv⟩ cl)).size ≤ 1000000000) := Lib.hid (by have := HOS.out.2.1; have := HM.out; omega)
            have HCASE := Lib.hid hcase
            have HE := Lib.hid hE
            have HM' := Lib.hid hM'
            have HS' := Lib.hid hs'
            have HCW := Lib.hid hci13.wf
            clear hcase hE hM' hs'
            go_wp2_with fail
            refine (save_as (h := ⟨ct, cv⟩) HHD.out hd13 (by decide) hl13 hst13 (Nat.le_of_lt hz13) hci13 rfl (by (try simp only); omega) (by omega) HDAT.out HO.out HE.out HM'.out HS'.out).mono ?_
            rintro e w14 ⟨rfl, hd14, hst14, ho14⟩
            have hn14 : Only NoBlock w w14 := hn13.andThen ho14 (by rintro i hi (e | e | e) <;> omega)
            have hl14 : LogAt w14 g d 0 := Blk.keeps hl13 ho14 (fun e => e.elim hgd.1 (fun e => e.elim hgd.2 (fun e => htg e.symm)))
            have hM14 := hM13.keepsP hd13 hst13 ho14
            have hci14 := hci13.keepsP hd13 hst13 ho14
            have hin14 := hin13.keepsP hd13 hst13 ho14
            have hbc14 := hbc13.keepsP hd13 hst13 (by decide) (by decide) ho14
            have hbs14 := hbs13.keepsP hd13 hst13 (by decide) (by decide) ho14
            have hHw := hst13.hard
            have hSw := hst13.snap
            simp only at hHw hSw
            have HHW := Lib.hid hHw
            have HSWW := Lib.hid hSw
            clear hd13 hl13 hst13 hM13 hin13 hci13 hn13 hbc13 hbs13 hbt c0 c1 c2 c3 c4 c5 c6 c7 ho14 hz13 hHw hSw
            have c0 : w14.cell? ⟨Pc, 0, none⟩ = some (.bool false) := by rw [hbc14.cell]; rfl
            have c1 : w14.cell? ⟨Pc, 1, none⟩ = some (.int .u64 ct) := by rw [hbc14.cell]; rfl
            have c2 : w14.cell? ⟨Pc, 2, none⟩ = some (.int .i64 cv) := by rw [hbc14.cell]; rfl
            have c3 : w14.cell? ⟨Pc, 3, none⟩ = some (.int .u64 ci) := by rw [hbc14.cell]; rfl
            have c4 : w14.cell? ⟨Pc, 4, none⟩ = some (.int .u64 cj) := by rw [hbc14.cell]; rfl
            have c5 : w14.cell? ⟨Pc, 5, none⟩ = some (.int .u64 cc) := by rw [hbc14.cell]; rfl
            have c6 : w14.cell? ⟨Pc, 6, none⟩ = some (.string cd) := by rw [hbc14.cell]; rfl
            have c7 : w14.cell? ⟨Pc, 7, none⟩ = some (.slice ao2 cl.length cap2) := by rw [hbc14.cell]; rfl
            have p0 : w14.cell? ⟨Ps, 0, none⟩ = some (.int .u64 t0) := by rw [hbs14.cell]; rfl
            have p1 : w14.cell? ⟨Ps, 1, none⟩ = some (.int .i64 v0) := by rw [hbs14.cell]; rfl
            have p2 : w14.cell? ⟨Ps, 2, none⟩ = some (.int .u64 si) := by rw [hbs14.cell]; rfl
            have p3 : w14.cell? ⟨Ps, 3, none⟩ = some (.int .u64 sj) := by rw [hbs14.cell]; rfl
            have p4 : w14.cell? ⟨Ps, 4, none⟩ = some (.int .u64 sc) := by rw [hbs14.cell]; rfl
            have p5 : w14.cell? ⟨Ps, 5, none⟩ = some (.string sd) := by rw [hbs14.cell]; rfl
            have p6 : w14.cell? ⟨Ps, 6, none⟩ = some (.slice aoS es.length capS) := by rw [hbs14.cell]; rfl
            have HREC : RowKit.Hid (∀ W : World, EntsIn W aoS es → EntsIn W ao2 cl → Calls Try.prog 25 #[.agg #[.int .u64 t0, .int .i64 v0, .int .u64 si, .int .u64 sj, .int .u64 sc, .string sd, .slice aoS es.length capS], .agg #[.int .u64 ct, .int .i64 cv], .slice ao2 cl.length cap2] W (RRecsEnd (Sto.out ⟨⟨t0, v0⟩, ⟨si, sj, sc, sd⟩, es⟩ ⟨ct, cv⟩ cl) ⟨⟨t0, v0⟩, ⟨si, sj, sc, sd⟩, es⟩ (2 + cl.length) W)) := Lib.hid (fun W h1 h2 => rrecs8_raw W t0 v0 si sj sc sd es aoS capS ct cv ao2 cap2 cl HHD.out HHW.out HSWW.out h1 (by omega) (fun e he => Nat.le_trans (Sto.right_ents HI.out.right e he).2.2 (by decide)) h2 (by omega) HDAT.out HO.out)
            rcases HCASE.out with ⟨h0, h1, h2, h3⟩ | ⟨s2, A', G, h0, h1, h2, g1, g2, h3, hI'⟩ | ⟨s2, B, h0, h1, h2, h3⟩
            · rw [HE.out] at h1; rw [HM'.out] at h2; rw [HS'.out] at h3
              subst h1 h2 h3
              have HI2 := Lib.hid (HI.out.more (n := Lt.lw (l.take (k + 1))) (by have := HSN.out; omega))
              clear HCASE HE HM' HS' HO hbc14 hbs14 HREC h0
              go_wp2_with fail
              go_roundw
              case rel =>
                first
                  | exact ⟨k + 1, A, ⟨⟨⟨t0, v0⟩, ⟨si, sj, sc, sd⟩, es⟩, aoS, capS⟩, F, by omega, by go_num, hM14, hd14, hl14, hst14, HI2, hF1, hF2, hn14⟩
                  | ((repeat apply Exists.intro); exact ⟨⟨k + 1, A, ⟨⟨⟨t0, v0⟩, ⟨si, sj, sc, sd⟩, es⟩, aoS, capS⟩, F, by omega, by go_num, hM14, hd14, hl14, hst14, HI2, hF1, hF2, hn14⟩, rfl⟩)
              case measure => simp [intOf]; omega
            · rw [HE.out] at h1; rw [HM'.out] at h2; rw [HS'.out] at h3
              subst h1 h2 h3
              have HI2 := Lib.hid (hI'.more (n := Lt.lw (l.take (k + 1))) (by have := HSN.out; omega))
              have H0 := Lib.hid h0
              clear HCASE HE HM' HS' HO hI' h0
              go_wp2_with fail
              refine (HREC.out w14 hin14 hci14).mono ?_
              rintro e w15 ⟨ok, ⟨⟨ft, fv⟩, ⟨fi, fj, fc, fd⟩, fe⟩, vz, aoF, capF, rfl, hF15, hO15, HT15, -, hh15, hs15, -⟩
              obtain rfl : ok = true := by
                cases ok with
                | true => rfl
                | false => have h1 := HT15; have h2 := H0.out; unfold Sto.saved at h2; rw [h1] at h2; cases h2
              have hfs : (⟨⟨ft, fv⟩, ⟨fi, fj, fc, fd⟩, fe⟩ : St) = s' := by have h1 := HT15; have h2 := H0.out; unfold Sto.saved at h2; rw [h1] at h2; exact Option.some.inj h2
              subst hfs
              simp only at hF15
              simp only [stCells]
              clear HT15 hh15 hs15 H0 HREC
              have hd15 := hd14.keeps hO15 (fun h => h) (fun h => h)
              have hl15 : LogAt w15 g d 0 := Blk.keeps hl14 hO15 (fun h => h)
              have hst15 := hst14.keeps hO15 (fun h => h) (fun _ _ h => h)
              have hn15 := hn14.trans hO15
              clear hd14 hl14 hst14 hn14 hO15 hM14 hci14 hin14 hbc14 hbs14 c0 c1 c2 c3 c4 c5 c6 c7 p0 p1 p2 p3 p4 p5 p6
              have hA15 := (Only.refl NoBlock w15).alloc (Obj.cells #[.int .u64 ft, .int .i64 fv, .int .u64 fi, .int .u64 fj, .int .u64 fc, .string fd, .slice aoF fe.length capF] 50)
              have hb15 := Blk.made w15 #[.int .u64 ft, .int .i64 fv, .int .u64 fi, .int .u64 fj, .int .u64 fc, .string fd, .slice aoF fe.length capF] 50
              go_upto_region 26 with fail
              have hd16 := hd15.keeps hA15 (fun h => h) (fun h => h)
              have hl16 : LogAt _ g d 0 := Blk.keeps hl15 hA15 (fun h => h)
              have hst16 := hst15.keeps hA15 (fun h => h) (fun _ _ h => h)
              have hn16 := hn15.trans hA15
              have hF16 := hF15.keeps hA15 (fun _ _ h => h)
              generalize w15.heap.size = Pf at hb15 ⊢
              generalize w15.alloc (Obj.cells #[.int .u64 ft, .int .i64 fv, .int .u64 fi, .int .u64 fj, .int .u64 fc, .string fd, .slice aoF fe.length capF] 50) = w16 at hd16 hl16 hst16 hn16 hF16 hb15 ⊢
              clear hA15 hd15 hl15 hst15 hn15 hF15
              have y0 : w16.cell? ⟨Pf, 0, none⟩ = some (.int .u64 ft) := by rw [hb15.cell]; rfl
              have y1 : w16.cell? ⟨Pf, 1, none⟩ = some (.int .i64 fv) := by rw [hb15.cell]; rfl
              have y2 : w16.cell? ⟨Pf, 2, none⟩ = some (.int .u64 fi) := by rw [hb15.cell]; rfl
              have y3 : w16.cell? ⟨Pf, 3, none⟩ = some (.int .u64 fj) := by rw [hb15.cell]; rfl
              have y4 : w16.cell? ⟨Pf, 4, none⟩ = some (.int .u64 fc) := by rw [hb15.cell]; rfl
              have y5 : w16.cell? ⟨Pf, 5, none⟩ = some (.string fd) := by rw [hb15.cell]; rfl
              have y6 : w16.cell? ⟨Pf, 6, none⟩ = some (.slice aoF fe.length capF) := by rw [hb15.cell]; rfl
              have hz16 := hn16.size
              have hM17 := Mays.one w16 w.heap.size ⟨⟨⟨ft, fv⟩, ⟨fi, fj, fc, fd⟩, fe⟩, aoF, capF⟩ hz16 hF16
              have hA16 := (Only.refl NoBlock w16).alloc (Obj.cells #[.int .u64 ft, .int .i64 fv, .int .u64 fi, .int .u64 fj, .int .u64 fc, .string fd, .slice aoF fe.length capF] 50)
              simp only at hM17
              go_wp2_with fail
              go_roundw
              case rel =>
                first
                  | exact ⟨k + 1, A', ⟨⟨⟨ft, fv⟩, ⟨fi, fj, fc, fd⟩, fe⟩, aoF, capF⟩, G, by omega, by go_num, hM17, hd16.keeps hA16 (fun h => h) (fun h => h), Blk.keeps hl16 hA16 (fun h => h), hst16.keeps hA16 (fun h => h) (fun _ _ h => h), HI2, g1, g2, hn16.trans hA16⟩
                  | ((repeat apply Exists.intro); exact ⟨⟨k + 1, A', ⟨⟨⟨ft, fv⟩, ⟨fi, fj, fc, fd⟩, fe⟩, aoF, capF⟩, G, by omega, by go_num, hM17, hd16.keeps hA16 (fun h => h) (fun h => h), Blk.keeps hl16 hA16 (fun h => h), hst16.keeps hA16 (fun h => h) (fun _ _ h => h), HI2, g1, g2, hn16.trans hA16⟩, rfl⟩)
              case measure => simp [intOf]; omega
            · rw [HE.out] at h1; rw [HM'.out] at h2
              subst h1 h2
              have H0 := Lib.hid h0
              have HB := Lib.hid h3
              have HG := Lib.hid (Sto.out_good HI.out.right HHD.out HCW.out h0)
              have hZl := HOS.out.2.2
              have HZS := Lib.hid HOS.out.1
              clear HCASE HE HM' HS' HO h0 h3 hl14 hst14
              go_wp2_with fail
              refine (HREC.out w14 hin14 hci14).mono ?_
              rintro e w15 ⟨ok, ⟨⟨ft, fv⟩, ⟨fi, fj, fc, fd⟩, fe⟩, vz, aoF, capF, rfl, hF15, hO15, HT15, hR15, hh15, hs15, -⟩
              obtain rfl : ok = true := by
                cases ok with
                | true => rfl
                | false => have h1 := HT15; have h2 := H0.out; unfold Sto.saved at h2; rw [h1] at h2; cases h2
              have hR15' := hR15 rfl
              obtain ⟨az, cz, rfl⟩ := hR15'.shape
              have hzi := hR15'.read
              have hR15s := hR15'
              simp only at hF15
              simp only [stCells]
              have hd15 := hd14.keeps hO15 (fun h => h) (fun h => h)
              have hn15 := hn14.trans hO15
              have hM15 := hM14.keepsN hO15
              have hin15 := hin14.keeps hO15 (fun _ _ h => h)
              have hbs15 := hbs14.keeps hO15 (fun h => h)
              have hn14x := hn14.size
              clear HT15 hh15 hs15 HREC hR15 hR15' hd14 hn14 hO15 hM14 hci14 hin14 hbc14 hbs14 c0 c1 c2 c3 c4 c5 c6 c7 p0 p1 p2 p3 p4 p5 p6
              have hA15 := (Only.refl NoBlock w15).alloc (Obj.cells #[.int .u64 ft, .int .i64 fv, .int .u64 fi, .int .u64 fj, .int .u64 fc, .string fd, .slice aoF fe.length capF] 50)
              go_upto_region 26 with fail
              have hd16 := hd15.keeps hA15 (fun h => h) (fun h => h)
              have hn16 := hn15.trans hA15
              have hM16 := hM15.keepsN hA15
              have hin16 := hin15.keeps hA15 (fun _ _ h => h)
              have hbs16 := hbs15.keeps hA15 (fun h => h)
              have hz16 := (hR15s.keeps hA15 (fun _ _ h => h)).lower (by have := hn14x; omega)
              have hzc := hzi.2.1
              have hzm := hzi.2.2
              unfold maxLen at hzm
              generalize w15.heap.size = Pf
              generalize w15.alloc (Obj.cells #[.int .u64 ft, .int .i64 fv, .int .u64 fi, .int .u64 fj, .int .u64 fc, .string fd, .slice aoF fe.length capF] 50) = w16 at hd16 hn16 hM16 hin16 hbs16 hz16 ⊢
              clear hA15 hd15 hn15 hF15 hM15 hin15 hbs15 hzi hR15s hn14x
              have HZ := Lib.hid (rfl : Sto.out ⟨⟨t0, v0⟩, ⟨si, sj, sc, sd⟩, es⟩ ⟨ct, cv⟩ cl = Sto.out ⟨⟨t0, v0⟩, ⟨si, sj, sc, sd⟩, es⟩ ⟨ct, cv⟩ cl)
              generalize hZd : Sto.out ⟨⟨t0, v0⟩, ⟨si, sj, sc, sd⟩, es⟩ ⟨ct, cv⟩ cl = Z at *
              have HZD := Lib.hid hZd
              clear hZd HZ
              go_wp2_with fail
              go_loopw [12, 116] (fun u12 u116 wr => ∃ (W : World) (j : Nat) (ms : List MSt), W = wr ∧ j ≤ Z.length ∧ u116 = .int .i64 j ∧ Mays wr w.heap.size u12 ms ∧ ms.length = j + 1 ∧ RowKit.Hid (∀ i, i ≤ j → Sto.said ⟨⟨t0, v0⟩, ⟨si, sj, sc, sd⟩, es⟩ (Z.take i) = some (ms.getD i MSt.zero).s) ∧ RowKit.Hid (∀ x ∈ ms, x.s.es.length ≤ 100000) ∧ DiskAt wr d mb (Sto.DF A (Wal.text B) 0 true) ∧ Blk wr Ps #[.int .u64 t0, .int .i64 v0, .int .u64 si, .int .u64 sj, .int .u64 sc, .string sd, .slice aoS es.length capS] 50 ∧ EntsIn wr aoS es ∧ Strs wr w.heap.size (.slice az Z.length cz) Z ∧ Only NoBlock w wr ∧ (⟨⟨⟨t0, v0⟩, ⟨si, sj, sc, sd⟩, es⟩, aoS, capS⟩ : MSt) ∈ ms ∧ Value.ownBlock u12 ≠ some Ps) (fun _ u116 _ => Z.length - (intOf u116).toNat)
              case atStart =>
                exact ⟨_, 0, [⟨⟨⟨t0, v0⟩, ⟨si, sj, sc, sd⟩, es⟩, aoS, capS⟩], rfl, by omega, rfl, hM16, rfl, Lib.hid (fun i hi => by obtain rfl : i = 0 := (by omega); rfl), Lib.hid (fun x hx => by simp only [List.mem_singleton] at hx; subst hx; show es.length ≤ _; omega), hd16, hbs16, hin16, hz16, hn16, List.mem_singleton.2 rfl, hmps⟩
              case round =>
                clear hM16 hd16 hbs16 hin16 hz16 hn16
                obtain ⟨wr2, j, ms, rfl, hj, rfl, hM17, hml, HSA, HMX, hd17, hbs17, hin17, hzS17, hn17, hmem, hups⟩ := hrel
                have hz17 := hzS17.read.1
                by_cases hjl : j < Z.length
                · obtain ⟨bz, oz, rfl, -⟩ := hz17.at hjl
                  obtain ⟨⟨⟨kt, kv⟩, ⟨ki, kj, kc, kd⟩, ke⟩, hk1, hk2⟩ := HG.out (j + 1)
                  have HK1 := Lib.hid hk1
                  have hkl := Sto.said_len _ _ _ hk1
                  rw [List.length_take] at hkl
                  simp only at hkl
                  have hkl2 : ke.length ≤ 100000 := by omega
                  have hZt : (Z.take (j + 1)).length = j + 1 := by rw [List.length_take]; omega
                  have hcz : j + 1 ≤ cz := by omega
                  have hmg := (World.ownsRow.lt hM17.own)
                  have hsd : RowKit.Hid (∀ W : World, Only NoBlock wr2 W → Calls Try.prog 26 #[.agg #[.int .u64 t0, .int .i64 v0, .int .u64 si, .int .u64 sj, .int .u64 sc, .string sd, .slice aoS es.length capS], .slice (some ⟨bz, oz, none⟩) (j + 1) cz] W fun e w' => ∃ aoK capK, e = .returned (.tuple #[.agg #[.int .u64 kt, .int .i64 kv, .int .u64 ki, .int .u64 kj, .int .u64 kc, .string kd, .slice aoK ke.length capK], .bool true]) ∧ EntsIn w' aoK ke ∧ Only NoBlock W w' ∧ Far wr2.heap.size none aoK) := Lib.hid (fun W hW => (lsaid8_as (s := ⟨⟨t0, v0⟩, ⟨si, sj, sc, sd⟩, es⟩) (L := Z.take (j + 1)) HHW.out HSWW.out (hin17.keeps hW (fun _ _ h => h)) rfl (by simp only; omega) (fun e he => Nat.le_trans (Sto.right_ents HI.out.right e he).2.2 (by decide)) (by have := HI.out.sd; simp only at this ⊢; omega) ((hz17.keeps hW (fun _ _ h => h)).take (j + 1)) hZt (by omega) (fun b hb => Nat.le_trans (HZS.out b (List.mem_of_mem_take hb)) (by decide))).mono fun e w' h => by
                    obtain ⟨ok, s3, aoK, capK, he, hE, ho, hT, -, -, -, hfar⟩ := h
                    rw [Sto.said_all (s := ⟨⟨t0, v0⟩, ⟨si, sj, sc, sd⟩, es⟩) HHW.out HSWW.out hin17.wf HI.out.right HI.out.sd, HK1.out] at hT
                    unfold Sto.rightO at hT
                    simp only at hT
                    rw [if_pos (show rightB ⟨kt, kv⟩ ⟨ki, kj, kc, kd⟩ ke = true from hk2)] at hT
                    cases ok with
                    | false => cases hT
                    | true =>
                      rw [if_pos rfl] at hT
                      cases hT
                      exact ⟨aoK, capK, he, hE, ho, fun a e => by rcases hfar a e with h | h; (rw [h] at e; cases e); exact .inr (Nat.le_trans hW.size h)⟩)
                  have HKL := Lib.hid hkl2
                  have HZT := Lib.hid hZt
                  have HMG := Lib.hid hmg
                  clear hk1 hk2 hkl hkl2 hZt hmg
                  have p0 : wr2.cell? ⟨Ps, 0, none⟩ = some (.int .u64 t0) := by rw [hbs17.cell]; rfl
                  have p1 : wr2.cell? ⟨Ps, 1, none⟩ = some (.int .i64 v0) := by rw [hbs17.cell]; rfl
                  have p2 : wr2.cell? ⟨Ps, 2, none⟩ = some (.int .u64 si) := by rw [hbs17.cell]; rfl
                  have p3 : wr2.cell? ⟨Ps, 3, none⟩ = some (.int .u64 sj) := by rw [hbs17.cell]; rfl
                  have p4 : wr2.cell? ⟨Ps, 4, none⟩ = some (.int .u64 sc) := by rw [hbs17.cell]; rfl
                  have p5 : wr2.cell? ⟨Ps, 5, none⟩ = some (.string sd) := by rw [hbs17.cell]; rfl
                  have p6 : wr2.cell? ⟨Ps, 6, none⟩ = some (.slice aoS es.length capS) := by rw [hbs17.cell]; rfl
                  go_upto_region 31 with fail
                  have hO1 : Only NoBlock wr2 wr2.drew := (Only.refl NoBlock wr2).drew
                  have hO2 : Only NoBlock wr2 (wr2.alloc (Obj.cells #[.int .u64 0, .int .i64 0, .int .u64 0, .int .u64 0, .int .u64 0, .string { data := #[] }, .slice none 0 0] 50)).drew := ((Only.refl NoBlock wr2).alloc _).drew
                  have hT2 := Blk.drew (Blk.made wr2 #[.int .u64 0, .int .i64 0, .int .u64 0, .int .u64 0, .int .u64 0, .string { data := #[] }, .slice none 0 0] 50)
                  have nP := World.new_ne wr2 ⟨Ps, 0, none⟩ p0
                  go_cut [21, 22] (fun v21 v22 wx => ∃ (W : World) (T : Nat) (aoK : Option Addr) (capK : Nat), W = wx ∧ v21 = .pointer (some ⟨T, 0, none⟩) ∧ v22 = .bool true ∧ Blk wx T #[.int .u64 kt, .int .i64 kv, .int .u64 ki, .int .u64 kj, .int .u64 kc, .string kd, .slice aoK ke.length capK] 50 ∧ EntsIn wx aoK ke ∧ Only NoBlock wr2 wx ∧ Far wr2.heap.size none aoK)
                  case first =>
                    have hb1 : (0 : Int) ≤ (j : Int) + 1 := by omega
                    have hb2 : (j : Int) + 1 ≤ (cz : Int) := by omega
                    have hb3 : ((j : Int) + 1).toNat = j + 1 := by omega
                    have hwj : IntKind.i64.wrap ((j : Int) + 1) = (j : Int) + 1 := IntWalk.i64_in _ (by omega)
                    go_wp2_with fail
                    go_region_held3 (fun w' => w'.cell? ⟨Ps, 0, none⟩ = some (.int .u64 t0) ∧ w'.cell? ⟨Ps, 1, none⟩ = some (.int .i64 v0) ∧ w'.cell? ⟨Ps, 2, none⟩ = some (.int .u64 si) ∧ w'.cell? ⟨Ps, 3, none⟩ = some (.int .u64 sj) ∧ w'.cell? ⟨Ps, 4, none⟩ = some (.int .u64 sc) ∧ w'.cell? ⟨Ps, 5, none⟩ = some (.string sd) ∧ w'.cell? ⟨Ps, 6, none⟩ = some (.slice aoS es.length capS))
                      (first | with_reducible exact ⟨p0, p1, p2, p3, p4, p5, p6⟩ | go_keep)
                      ((go_at_call 26; refine (hsd.out _ (by first | with_reducible exact hO1 | with_reducible exact hO2)).mono ?_; rintro e w18 ⟨aoK, capK, rfl, hK18, hOx, hF18⟩; (try (with_reducible have hg18 : Only NoBlock wr2.drew w18 := hOx)); (first | (clear hg18) | have hT18 := hT2.keeps hOx (fun h => h)); have hO18 : Only NoBlock wr2 w18 := Only.trans (by first | with_reducible exact hO1 | with_reducible exact hO2) hOx; have hp18 := hbs17.keeps hO18 (fun h => h)
                        have p0 : w18.cell? ⟨Ps, 0, none⟩ = some (.int .u64 t0) := by rw [hp18.cell]; rfl
                        have p1 : w18.cell? ⟨Ps, 1, none⟩ = some (.int .i64 v0) := by rw [hp18.cell]; rfl
                        have p2 : w18.cell? ⟨Ps, 2, none⟩ = some (.int .u64 si) := by rw [hp18.cell]; rfl
                        have p3 : w18.cell? ⟨Ps, 3, none⟩ = some (.int .u64 sj) := by rw [hp18.cell]; rfl
                        have p4 : w18.cell? ⟨Ps, 4, none⟩ = some (.int .u64 sc) := by rw [hp18.cell]; rfl
                        have p5 : w18.cell? ⟨Ps, 5, none⟩ = some (.string sd) := by rw [hp18.cell]; rfl
                        have p6 : w18.cell? ⟨Ps, 6, none⟩ = some (.slice aoS es.length capS) := by rw [hp18.cell]; rfl
                        have hz18 := Blk.made w18 #[.int .u64 0, .int .i64 0, .int .u64 0, .int .u64 0, .int .u64 0, .string { data := #[] }, .slice none 0 0] 50
                        have y0 : (w18.alloc (Obj.cells #[.int .u64 0, .int .i64 0, .int .u64 0, .int .u64 0, .int .u64 0, .string { data := #[] }, .slice none 0 0] 50)).cell? ⟨w18.heap.size, 0, none⟩ = some (.int .u64 0) := by rw [hz18.cell]; rfl
                        have fy0 := hz18.free 0
                        have y1 : (w18.alloc (Obj.cells #[.int .u64 0, .int .i64 0, .int .u64 0, .int .u64 0, .int .u64 0, .string { data := #[] }, .slice none 0 0] 50)).cell? ⟨w18.heap.size, 1, none⟩ = some (.int .i64 0) := by rw [hz18.cell]; rfl
                        have fy1 := hz18.free 1
                        have y2 : (w18.alloc (Obj.cells #[.int .u64 0, .int .i64 0, .int .u64 0, .int .u64 0, .int .u64 0, .string { data := #[] }, .slice none 0 0] 50)).cell? ⟨w18.heap.size, 2, none⟩ = some (.int .u64 0) := by rw [hz18.cell]; rfl
                        have fy2 := hz18.free 2
                        have y3 : (w18.alloc (Obj.cells #[.int .u64 0, .int .i64 0, .int .u64 0, .int .u64 0, .int .u64 0, .string { data := #[] }, .slice none 0 0] 50)).cell? ⟨w18.heap.size, 3, none⟩ = some (.int .u64 0) := by rw [hz18.cell]; rfl
                        have fy3 := hz18.free 3
                        have y4 : (w18.alloc (Obj.cells #[.int .u64 0, .int .i64 0, .int .u64 0, .int .u64 0, .int .u64 0, .string { data := #[] }, .slice none 0 0] 50)).cell? ⟨w18.heap.size, 4, none⟩ = some (.int .u64 0) := by rw [hz18.cell]; rfl
                        have fy4 := hz18.free 4
                        have y5 : (w18.alloc (Obj.cells #[.int .u64 0, .int .i64 0, .int .u64 0, .int .u64 0, .int .u64 0, .string { data := #[] }, .slice none 0 0] 50)).cell? ⟨w18.heap.size, 5, none⟩ = some (.string { data := #[] }) := by rw [hz18.cell]; rfl
                        have fy5 := hz18.free 5
                        have y6 : (w18.alloc (Obj.cells #[.int .u64 0, .int .i64 0, .int .u64 0, .int .u64 0, .int .u64 0, .string { data := #[] }, .slice none 0 0] 50)).cell? ⟨w18.heap.size, 6, none⟩ = some (.slice none 0 0) := by rw [hz18.cell]; rfl
                        have fy6 := hz18.free 6
                        have np18 := World.new_ne w18 ⟨Ps, 0, none⟩ p0
                        (try have tt0 : w18.cell? ⟨wr2.heap.size, 0, none⟩ = some (.int .u64 0) := by rw [hT18.cell]; rfl)
                        (try have ftt0 := hT18.free 0)
                        (try have tt1 : w18.cell? ⟨wr2.heap.size, 1, none⟩ = some (.int .i64 0) := by rw [hT18.cell]; rfl)
                        (try have ftt1 := hT18.free 1)
                        (try have tt2 : w18.cell? ⟨wr2.heap.size, 2, none⟩ = some (.int .u64 0) := by rw [hT18.cell]; rfl)
                        (try have ftt2 := hT18.free 2)
                        (try have tt3 : w18.cell? ⟨wr2.heap.size, 3, none⟩ = some (.int .u64 0) := by rw [hT18.cell]; rfl)
                        (try have ftt3 := hT18.free 3)
                        (try have tt4 : w18.cell? ⟨wr2.heap.size, 4, none⟩ = some (.int .u64 0) := by rw [hT18.cell]; rfl)
                        (try have ftt4 := hT18.free 4)
                        (try have tt5 : w18.cell? ⟨wr2.heap.size, 5, none⟩ = some (.string { data := #[] }) := by rw [hT18.cell]; rfl)
                        (try have ftt5 := hT18.free 5)
                        (try have tt6 : w18.cell? ⟨wr2.heap.size, 6, none⟩ = some (.slice none 0 0) := by rw [hT18.cell]; rfl)
                        (try have ftt6 := hT18.free 6)))
                    · have hA := (Only.refl NoBlock w18).alloc (Obj.cells #[.int .u64 kt, .int .i64 kv, .int .u64 ki, .int .u64 kj, .int .u64 kc, .string kd, .slice aoK ke.length capK] 50)
                      have hB := Blk.made w18 #[.int .u64 kt, .int .i64 kv, .int .u64 ki, .int .u64 kj, .int .u64 kc, .string kd, .slice aoK ke.length capK] 50
                      have hl8 := hK18.keeps hA (fun _ _ h => h)
                      have hnn := hO18.trans hA
                      clear hb1 hb2 hb3 hwj p0 p1 p2 p3 p4 p5 p6
                      go_wp2_with fail
                      go_meet
                      exact ⟨_, _, aoK, capK, rfl, rfl, rfl, hB, hl8, hnn, hF18⟩
                    · have hvo := vset_only w18 wr2.heap.size (.int .u64 kt) (.int .i64 kv) (.int .u64 ki) (.int .u64 kj) (.int .u64 kc) (.string kd) (.slice aoK ke.length capK)
                      have hB := vset_blk8 hT18 (.int .u64 kt) (.int .i64 kv) (.int .u64 ki) (.int .u64 kj) (.int .u64 kc) (.string kd) (.slice aoK ke.length capK)
                      have hl8 := EntsIn.keepsS (h := ⟨0, 0⟩) (s := ⟨0, 0, 0, ByteArray.empty⟩) (b := none) (n := 0) (c := 0) hK18 hT18 hvo
                      have hnn := hO18.andThen hvo (fun k hk e => by have e' : k = wr2.heap.size := e; omega)
                      clear hb1 hb2 hb3 hwj p0 p1 p2 p3 p4 p5 p6
                      go_wp2_with fail
                      go_meet
                      exact ⟨_, _, aoK, capK, rfl, rfl, rfl, hB, hl8, hnn, hF18⟩
                  case rest =>
                    obtain ⟨w18, T, aoK, capK, rfl, rfl, rfl, hb18, hK18, hO18, hF18⟩ := hcut
                    have hM18 := hM17.keepsN hO18
                    have hd18 := hd17.keeps hO18 (fun h => h) (fun h => h)
                    have hbs18 := hbs17.keeps hO18 (fun h => h)
                    have hin18 := hin17.keeps hO18 (fun _ _ h => h)
                    have hz18 := hzS17.keeps hO18 (fun _ _ h => h)
                    have hn18 := hn17.trans hO18
                    clear p0 p1 p2 p3 p4 p5 p6 nP hT2 hO2 hO1 hsd
                    have x0 : w18.cell? ⟨T, 0, none⟩ = some (.int .u64 kt) := by rw [hb18.cell]; rfl
                    have x1 : w18.cell? ⟨T, 1, none⟩ = some (.int .i64 kv) := by rw [hb18.cell]; rfl
                    have x2 : w18.cell? ⟨T, 2, none⟩ = some (.int .u64 ki) := by rw [hb18.cell]; rfl
                    have x3 : w18.cell? ⟨T, 3, none⟩ = some (.int .u64 kj) := by rw [hb18.cell]; rfl
                    have x4 : w18.cell? ⟨T, 4, none⟩ = some (.int .u64 kc) := by rw [hb18.cell]; rfl
                    have x5 : w18.cell? ⟨T, 5, none⟩ = some (.string kd) := by rw [hb18.cell]; rfl
                    have x6 : w18.cell? ⟨T, 6, none⟩ = some (.slice aoK ke.length capK) := by rw [hb18.cell]; rfl
                    have hA18 := (Only.refl NoBlock w18).alloc (Obj.cells #[.int .u64 kt, .int .i64 kv, .int .u64 ki, .int .u64 kj, .int .u64 kc, .string kd, .slice aoK ke.length capK] 50)
                    have hsz18 := hn18.size
                    have hfx : (⟨⟨⟨kt, kv⟩, ⟨ki, kj, kc, kd⟩, ke⟩, aoK, capK⟩ : MSt).s.es = [] ∨ ∀ a, (⟨⟨⟨kt, kv⟩, ⟨ki, kj, kc, kd⟩, ke⟩, aoK, capK⟩ : MSt).ao = some a → Value.ownBlock u12 ≠ some a.block := .inr (fun a ha e => by
                      have h1 := (HMG.out a.block e).2
                      rcases hF18 a ha with h2 | h2
                      · rw [h2] at ha; cases ha
                      · omega)
                    have HFX := Lib.hid hfx
                    clear hfx
                    go_wp2_with (first
                      | (at_builtin; refine wpList_append_may _ rfl _ _ rfl w.heap.size _ ms ⟨⟨⟨kt, kv⟩, ⟨ki, kj, kc, kd⟩, ke⟩, aoK, capK⟩ w18.heap.size 1 rfl (hM18.keepsN hA18) rfl (Blk.made _ _ _) (hK18.keeps hA18 (fun _ _ h => h)) HFX.out (by omega) (by simp; omega) ?_; intro v19 w19 hM19 hg19 hor19))
                    have hOg := Only.of_grown hg19
                    have hMA := hM18.keepsN hA18
                    have hdA := hd18.keeps hA18 (fun h => h) (fun h => h)
                    have hzA := hz18.keeps hA18 (fun _ _ h => h)
                    have hd19 := hdA.keeps hOg (fun e => hMA.apartD hdA _ e (.inl rfl)) (fun e => hMA.apartD hdA _ e (.inr rfl))
                    have hbs19 := (hbs18.keeps hA18 (fun h => h)).keeps hOg (fun e => hups e)
                    have hin19 : EntsIn w19 aoS es := by
                      have h1 := hin18.keeps hA18 (fun _ _ h => h)
                      rcases hM17.far _ hmem with h2 | h2
                      · have h3 : es = [] := h2
                        rw [h3]; exact EntsIn.nil _ _
                      · exact h1.keeps hOg (fun a ha e => h2 a ha e)
                    have hz19 := hzA.keeps hOg (fun j hj e => hMA.apartS hzA j hj e)
                    have hn19 := (hn18.trans hA18).grown hg19 (fun k hk hl => absurd (World.ownsRow.lt hM18.own k hk).1 (by omega))
                    have hbl := hbs18.lt
                    have hup19 : Value.ownBlock v19 ≠ some Ps := by
                      rcases hor19 with e | e
                      · rw [e]; exact hups
                      · rw [e]
                        intro e2
                        have h2 : (w18.alloc (Obj.cells #[.int .u64 kt, .int .i64 kv, .int .u64 ki, .int .u64 kj, .int .u64 kc, .string kd, .slice aoK ke.length capK] 50)).heap.size = Ps := Option.some.inj e2
                        rw [World.size_alloc] at h2
                        omega
                    have HSA2 : RowKit.Hid (∀ i, i ≤ j + 1 → Sto.said ⟨⟨t0, v0⟩, ⟨si, sj, sc, sd⟩, es⟩ (Z.take i) = some ((ms ++ [(⟨⟨⟨kt, kv⟩, ⟨ki, kj, kc, kd⟩, ke⟩, aoK, capK⟩ : MSt)]).getD i MSt.zero).s) := Lib.hid (fun i hi => by
                      by_cases hij : i ≤ j
                      · rw [List.getD_eq_getElem?_getD, List.getElem?_append_left (by omega), ← List.getD_eq_getElem?_getD]
                        exact HSA.out i hij
                      · obtain rfl : i = j + 1 := (by omega)
                        rw [List.getD_eq_getElem?_getD, List.getElem?_append_right (by omega), hml, Nat.sub_self]
                        exact HK1.out)
                    have HMX2 : RowKit.Hid (∀ x ∈ ms ++ [(⟨⟨⟨kt, kv⟩, ⟨ki, kj, kc, kd⟩, ke⟩, aoK, capK⟩ : MSt)], x.s.es.length ≤ 100000) := Lib.hid (fun x hx => by
                      rcases List.mem_append.1 hx with hx | hx
                      · exact HMX.out x hx
                      · simp only [List.mem_singleton] at hx
                        subst hx
                        exact HKL.out)
                    have hml2 : (ms ++ [(⟨⟨⟨kt, kv⟩, ⟨ki, kj, kc, kd⟩, ke⟩, aoK, capK⟩ : MSt)]).length = j + 1 + 1 := by rw [List.length_append, hml]; rfl
                    have hmem2 : (⟨⟨⟨t0, v0⟩, ⟨si, sj, sc, sd⟩, es⟩, aoS, capS⟩ : MSt) ∈ ms ++ [(⟨⟨⟨kt, kv⟩, ⟨ki, kj, kc, kd⟩, ke⟩, aoK, capK⟩ : MSt)] := List.mem_append_left _ hmem
                    go_roundw
                    case rel =>
                      first
                        | exact ⟨w19, j + 1, ms ++ [⟨⟨⟨kt, kv⟩, ⟨ki, kj, kc, kd⟩, ke⟩, aoK, capK⟩], rfl, by omega, by go_num, hM19, hml2, HSA2, HMX2, hd19, hbs19, hin19, hz19, hn19, hmem2, hup19⟩
                        | ((repeat apply Exists.intro); exact ⟨⟨w19, j + 1, ms ++ [⟨⟨⟨kt, kv⟩, ⟨ki, kj, kc, kd⟩, ke⟩, aoK, capK⟩], rfl, by omega, by go_num, hM19, hml2, HSA2, HMX2, hd19, hbs19, hin19, hz19, hn19, hmem2, hup19⟩, rfl⟩)
                    case measure => simp [intOf]; omega
                · obtain rfl : j = Z.length := by omega
                  have HL := Lib.hid (Sto.LastP.soft (ms := ms) HI.out (by have := HM.out; omega) HHD.out HCW.out H0.out (by rw [HZD.out]; exact HB.out) (by rw [HZD.out]; exact hml) (by rw [HZD.out]; exact HSA.out) HMX.out 0 true keep)
                  go_wp2_with fail
                  go_meet
                  exact ⟨_, _, ms, rfl, hM17, by omega, hd17, hn17, HL⟩
        · obtain rfl : k = l.length := by omega
          have HL := Lib.hid (Sto.LastP.firm (x := ⟨⟨⟨t0, v0⟩, ⟨si, sj, sc, sd⟩, es⟩, aoS, capS⟩) HI.out (by rw [List.take_length]; exact HLW.out) F false keep)
          go_wp2_with fail
          go_meet
          exact ⟨_, _, _, rfl, hM10, by simp, hd10, hn10, HL⟩
    case rest =>
      obtain ⟨w20, M, ms, rfl, hM20, hmp, hd20, hn20, HL⟩ := hcut
      have hwk2 := hwk
      obtain ⟨g20, c20, rfl, hgc⟩ := hM20.shape hmp
      have hal : Only NoBlock w20 (w20.alloc (Obj.cells #[Value.int .i64 keep] 3)) := (Only.refl NoBlock w20).alloc _
      obtain ⟨M', ⟨⟨nt, nv⟩, ⟨ni, nj, nc, nd⟩, ne⟩, hc1, hc2, hc3, ⟨i0, hi0, hi1⟩, hc4, hc5⟩ := HL.out
      have HC1 := Lib.hid hc1
      have HC2 := Lib.hid hc2
      have HC3 := Lib.hid hc3
      have HI1 := Lib.hid hi1
      have HC5 := Lib.hid hc5
      have hM21 := hM20.keepsN hal
      have hn21 := hn20.trans hal
      clear hc1 hc2 hc3 hi1 hc5 HL
      go_wp2_with fail
      refine (crash_as (hd20.keeps hal (fun h => h) (fun h => h)) (ints_one w20 keep hwk2 _) rfl HC1.out).mono ?_
      rintro e w22 ⟨rfl, hd22, ho22⟩
      have hn22 := hn21.trans ho22
      have hz21 := hn21.size
      have hml := hM21.own
      have hmlt := (World.ownsRow.lt hml g20 rfl)
      clear hd20 hM20 hn20 hn21 hal hml
      obtain ⟨m2, hm2⟩ : ∃ m2, (w20.alloc (Obj.cells #[Value.int .i64 keep] 3)).heap.size = m2 := ⟨_, rfl⟩
      rw [hm2] at hd22 hz21 hmlt ⊢
      have hm22 : m2 ≤ w22.heap.size := by have := ho22.size; omega
      obtain ⟨d2, hd2⟩ : ∃ d2, m2 + 1 = d2 := ⟨_, rfl⟩
      rw [hd2] at hd22 ⊢
      have HM2 := Lib.hid hm2
      clear hm2
      go_wp2_with fail
      refine (sopen_ok hd22 (by decide) (by omega) HC2.out rfl HC3.out).mono ?_
      rintro e w23 ⟨t23, g23, aoN, capN, rfl, -, -, -, hv23, -, hnl, -, ho23⟩
      have hn23 : Only NoBlock w w23 := hn22.andThen ho23 (by rintro i hi (e | e) <;> omega)
      have hO23 := ho22.andThen ho23 (by rintro i hi (e | e) <;> (rw [HM2.out] at hi; omega))
      have hM23 := hM21.keepsN hO23
      simp only [stCells]
      simp only at hv23 hnl
      clear hd22 ho22 ho23 hn22 hM21 hO23
      go_upto_region 37 with fail
      have hA23 := (Only.refl NoBlock w23).alloc (Obj.cells #[.int .u64 nt, .int .i64 nv, .int .u64 ni, .int .u64 nj, .int .u64 nc, .string nd, .slice aoN ne.length capN] 42)
      have hbn := Blk.made w23 #[.int .u64 nt, .int .i64 nv, .int .u64 ni, .int .u64 nj, .int .u64 nc, .string nd, .slice aoN ne.length capN] 42
      have hM24 := hM23.keepsN hA23
      have hv24 := hv23.keeps hA23 (fun _ _ h => h)
      have hn24 := hn23.trans hA23
      generalize w23.heap.size = Pn at hbn ⊢
      generalize w23.alloc (Obj.cells #[.int .u64 nt, .int .i64 nv, .int .u64 ni, .int .u64 nj, .int .u64 nc, .string nd, .slice aoN ne.length capN] 42) = w24 at hbn hM24 hv24 hn24 ⊢
      clear hA23 hM23 hv23 hn23
      go_wp2_with fail
      go_loopw [148] (fun u148 wr => ∃ (W : World) (i : Nat), W = wr ∧ i ≤ i0 ∧ u148 = .int .i64 i ∧ Only NoBlock w24 wr) (fun u148 _ => ms.length - (intOf u148).toNat)
      case atStart => exact ⟨_, 0, rfl, by omega, rfl, Only.refl _ _⟩
      case round =>
        obtain ⟨wr3, i, rfl, hii, rfl, hO25⟩ := hrel
        have hi : i < ms.length := by omega
        have hM25 := hM24.keepsN hO25
        have hcell := Mays.cell hM25 hi
        have hxe : ms.getD i MSt.zero ∈ ms := by rw [List.getD_eq_getElem?_getD, List.getElem?_eq_getElem hi]; exact List.getElem_mem hi
        have hent := hM25.ents _ hxe
        have hxl := HC5.out _ hxe
        obtain ⟨x, hx⟩ : ∃ x, ms.getD i MSt.zero = x := ⟨_, rfl⟩
        rw [hx] at hcell hent hxl
        have HX := Lib.hid hx
        clear hx hxe
        obtain ⟨⟨⟨kt, kv⟩, ⟨ki, kj, kc, kd⟩, ke⟩, aoK, capK⟩ := x
        simp only at hent hxl
        have m0 : wr3.cell? ⟨g20, i * 7, none⟩ = some (.int .u64 kt) := by have h := hcell 0 (by decide); simpa [MSt.cells] using h
        have m1 : wr3.cell? ⟨g20, i * 7 + 1, none⟩ = some (.int .i64 kv) := by have h := hcell 1 (by decide); simpa [MSt.cells] using h
        have m2 : wr3.cell? ⟨g20, i * 7 + 2, none⟩ = some (.int .u64 ki) := by have h := hcell 2 (by decide); simpa [MSt.cells] using h
        have m3 : wr3.cell? ⟨g20, i * 7 + 3, none⟩ = some (.int .u64 kj) := by have h := hcell 3 (by decide); simpa [MSt.cells] using h
        have m4 : wr3.cell? ⟨g20, i * 7 + 4, none⟩ = some (.int .u64 kc) := by have h := hcell 4 (by decide); simpa [MSt.cells] using h
        have m5 : wr3.cell? ⟨g20, i * 7 + 5, none⟩ = some (.string kd) := by have h := hcell 5 (by decide); simpa [MSt.cells] using h
        have m6 : wr3.cell? ⟨g20, i * 7 + 6, none⟩ = some (.slice aoK ke.length capK) := by have h := hcell 6 (by decide); simpa [MSt.cells] using h
        clear hcell
        have hb25 := hbn.keeps hO25 (fun h => h)
        have hv25 := hv24.keeps hO25 (fun _ _ h => h)
        have hn25 := hn24.trans hO25
        have hA25 := (Only.refl NoBlock wr3).alloc (Obj.cells #[.int .u64 kt, .int .i64 kv, .int .u64 ki, .int .u64 kj, .int .u64 kc, .string kd, .slice aoK ke.length capK] 50)
        have hbk := Blk.made wr3 #[.int .u64 kt, .int .i64 kv, .int .u64 ki, .int .u64 kj, .int .u64 kc, .string kd, .slice aoK ke.length capK] 50
        go_upto_region 42 with fail
        have hb26 := hb25.keeps hA25 (fun h => h)
        have hv26 := hv25.keeps hA25 (fun _ _ h => h)
        have he26 := hent.keeps hA25 (fun _ _ h => h)
        have hO26 := hO25.trans hA25
        generalize wr3.heap.size = Pk at hbk ⊢
        generalize wr3.alloc (Obj.cells #[.int .u64 kt, .int .i64 kv, .int .u64 ki, .int .u64 kj, .int .u64 kc, .string kd, .slice aoK ke.length capK] 50) = w26 at hb26 hv26 he26 hO26 hbk ⊢
        clear m0 m1 m2 m3 m4 m5 m6 hA25 hb25 hv25 hent hO25 hn25 hM25
        have n0 : w26.cell? ⟨Pn, 0, none⟩ = some (.int .u64 nt) := by rw [hb26.cell]; rfl
        have n1 : w26.cell? ⟨Pn, 1, none⟩ = some (.int .i64 nv) := by rw [hb26.cell]; rfl
        have n2 : w26.cell? ⟨Pn, 2, none⟩ = some (.int .u64 ni) := by rw [hb26.cell]; rfl
        have n3 : w26.cell? ⟨Pn, 3, none⟩ = some (.int .u64 nj) := by rw [hb26.cell]; rfl
        have n4 : w26.cell? ⟨Pn, 4, none⟩ = some (.int .u64 nc) := by rw [hb26.cell]; rfl
        have n5 : w26.cell? ⟨Pn, 5, none⟩ = some (.string nd) := by rw [hb26.cell]; rfl
        have n6 : w26.cell? ⟨Pn, 6, none⟩ = some (.slice aoN ne.length capN) := by rw [hb26.cell]; rfl
        have k0 : w26.cell? ⟨Pk, 0, none⟩ = some (.int .u64 kt) := by rw [hbk.cell]; rfl
        have k1 : w26.cell? ⟨Pk, 1, none⟩ = some (.int .i64 kv) := by rw [hbk.cell]; rfl
        have k2 : w26.cell? ⟨Pk, 2, none⟩ = some (.int .u64 ki) := by rw [hbk.cell]; rfl
        have k3 : w26.cell? ⟨Pk, 3, none⟩ = some (.int .u64 kj) := by rw [hbk.cell]; rfl
        have k4 : w26.cell? ⟨Pk, 4, none⟩ = some (.int .u64 kc) := by rw [hbk.cell]; rfl
        have k5 : w26.cell? ⟨Pk, 5, none⟩ = some (.string kd) := by rw [hbk.cell]; rfl
        have k6 : w26.cell? ⟨Pk, 6, none⟩ = some (.slice aoK ke.length capK) := by rw [hbk.cell]; rfl
        go_wp2_with fail
        refine (same8_at w26 ⟨⟨nt, nv⟩, ⟨ni, nj, nc, nd⟩, ne⟩ ⟨⟨kt, kv⟩, ⟨ki, kj, kc, kd⟩, ke⟩ aoN aoK capN capK hv26 he26 (by simp only; omega) (by simp only; omega)).mono ?_
        rintro e w27 ⟨he, ho27⟩
        have hO27 := hO26.trans ho27
        by_cases heq : (⟨⟨nt, nv⟩, ⟨ni, nj, nc, nd⟩, ne⟩ : St) = ⟨⟨kt, kv⟩, ⟨ki, kj, kc, kd⟩, ke⟩
        · rw [decide_eq_true heq] at he
          subst he
          clear heq
          go_wp2_with fail
          go_ret
          exact ⟨rfl, hn24.trans hO27⟩
        · rw [decide_eq_false heq] at he
          subst he
          have hne : i ≠ i0 := fun e => heq (by subst e; have h1 := HI1.out; rw [HX.out] at h1; exact h1.symm)
          have HEQ := Lib.hid heq
          clear heq
          go_wp2_with fail
          go_roundw
          case rel =>
            first
              | exact ⟨_, i + 1, rfl, by omega, by go_num, hO27⟩
              | ((repeat apply Exists.intro); exact ⟨⟨_, i + 1, rfl, by omega, by go_num, hO27⟩, rfl⟩)
          case measure => simp [intOf]; omega
  · rw [decide_eq_false hlw] at he
    subst he
    go_wp2_with fail
    go_ret
    exact ⟨rfl, hn3⟩
theorem walk_StoreLasts {w : World} (x : List CallS × Option Addr × Nat) (hx : CallsS w x.2.1 x.1) (fuel : Int) (hwf : (Lit.int .i64 fuel).wf = true) (keep : Int) (hwk : (Lit.int .i64 keep).wf = true) :
    Calls Try.prog 5 #[.slice x.2.1 x.1.length x.2.2, .int .i64 fuel, .int .i64 keep] w fun e w' => e = .returned (.bool true) ∧ Below w.heap.size w w' :=
  (walk_Lasts x.2.1 x.2.2 x.1 hx fuel hwf keep hwk).mono fun e w' ⟨he, ho⟩ => ⟨he, ho.below (Nat.le_refl _) (fun _ h => h.elim)⟩
end Go.Proofs.Ytekmjhenhgmpgaa

/- The statement StoreLasts: for every input the law returns true, and each argument reads afterwards as before. Frame of the walk in LawStoreLasts. -/
namespace Go.Proofs.Ytekmjhenhgmpgaa.storeLasts
open Go.ChangeShapes Go.WideShapes Go.ChangeAt Go.RowKit
open Go.ChangeMaps (open_string shut_string)
set_option linter.unusedVariables false

theorem own : ownKnob Try.prog.godebug = none := by kernel_rfl
theorem laidOut : laidOutB Try.prog = true := by kernel_rfl
theorem u1 : Try.prog.underlying 3 = some (.int .i64) := by kernel_rfl
theorem u2 : Try.prog.underlying 3 = some (.int .i64) := by kernel_rfl
theorem ub : Try.prog.underlying 4 = some .bool := by kernel_rfl

set_option maxRecDepth 100000 in
theorem lifted (os : Os) (started : os.Started) (H : Type) (enc : TypeId × Value → H) (F : Stop.Interp) :
    ReturnsInHanded {} Try.checked os 5 .any ((Rows.OpenSpec.upto Rows.storeLastsSpec).pre6 enc Try.prog Try.f5 Rows.storeLastsUptoRow.domain false) (((Rows.OpenSpec.upto Rows.storeLastsSpec).at F).post enc Try.prog Try.f5 false true false false) := by
  refine returnsInHanded_of_cond (C := Try.checked) (s := Rows.OpenSpec.upto Rows.storeLastsSpec) (k := Rows.uptoSmall) rfl own started (by kernel_rfl) Try.func5
    (OpenSpec.witness (enc := enc) (C := Try.checked) (s := Rows.OpenSpec.upto Rows.storeLastsSpec) (k := Rows.uptoSmall) rfl false ⟨#[], #[.slice none 0 0, .int .i64 0, .int .i64 0], []⟩ 8 (by kernel_rfl) (by kernel_rfl) (by kernel_rfl)
      (x := ([.nil, .lit (.int .i64 0), .lit (.int .i64 0)], [], [])) (by kernel_rfl) rfl (by kernel_rfl)) ?_
  intro W base args ds gs before hval0 hW hcnd hk0 _
  show Calls Try.prog 5 args W fun e W' => ∃ v, e = .returned v ∧ Rows.storeLastsSpec.post enc Try.prog Try.f5 false true false false W args v W'
  have hk : Rows.uptoBulkAll (ds ++ gs) ≤ 1048576 := of_decide_eq_true hk0
  have hval : ∀ (j : Nat) t v, Try.f5.params[j]? = some t → args[j]? = some v → Value.okWide Try.prog W .any base t v := hval0
  have hW' := hW
  obtain ⟨p, q, hA0, hV, rfl, hfz, hnd⟩ := hW
  have hA : DataW.TrodAll enc Try.prog W 0 (fun _ => true) true Try.f5.params.toList args.toList ds p := hA0
  rw [Try.params5] at hA hval
  obtain ⟨v0, vs0, d0, ds0, p0, q0, hargs, rfl, rfl, h0, r0⟩ := trodAll_cons hA
  obtain ⟨v1, vs1, d1, ds1, p1, q1, rfl, rfl, rfl, h1, r1⟩ := trodAll_cons r0
  obtain ⟨v2, vs2, d2, ds2, p2, q2, rfl, rfl, rfl, h2, r2⟩ := trodAll_cons r1
  obtain ⟨rfl, rfl, rfl⟩ := trodAll_nil r2
  obtain rfl : args = #[v0, v1, v2] := by cases args; simp_all
  obtain ⟨rfl, rfl⟩ := trodVars_none hV
  have k0 := h0
  have lt0 : ∀ x ∈ p0, x.block < W.heap.size := by obtain ⟨m, hm⟩ := k0; exact DataW.trod_lt m _ _ _ hm
  have k1 := h1
  have lt1 : ∀ x ∈ p1, x.block < W.heap.size := by obtain ⟨m, hm⟩ := k1; exact DataW.trod_lt m _ _ _ hm
  have k2 := h2
  have lt2 : ∀ x ∈ p2, x.block < W.heap.size := by obtain ⟨m, hm⟩ := k2; exact DataW.trod_lt m _ _ _ hm
  simp only [Rows.uptoBulkAll, List.cons_append, List.nil_append, List.append_nil] at hk
  have b0 : Rows.uptoBulk d0 ≤ 1048576 := by omega
  have b1 : Rows.uptoBulk d1 ≤ 1048576 := by omega
  have b2 : Rows.uptoBulk d2 ≤ 1048576 := by omega
  clear hk
  obtain ⟨a0, rfl, w0⟩ := open_calls8 (hval 0 55 v0 rfl rfl) h0 b0
  obtain ⟨a1, rfl, rfl, rfl, w1⟩ := open_int u1 (hval 1 3 v1 rfl rfl) h1
  obtain ⟨a2, rfl, rfl, rfl, w2⟩ := open_int u2 (hval 2 3 v2 rfl rfl) h2
  clear hA0 hval0
  refine (walk_StoreLasts (w := W) a0 w0 a1 w1 a2 w2).mono fun e W' ⟨he, bel⟩ => ?_
  subst he
  exact ⟨_, rfl, _, _, _, [], _, [], hW', trodAll_mk1 (shut_bool ub _), (trodAll_cons_mk (Below.trod laidOut (by kernel_rfl) (of_decide_eq_true (by kernel_rfl)) k0 bel lt0) (trodAll_cons_mk (Below.trod laidOut (by kernel_rfl) (of_decide_eq_true (by kernel_rfl)) k1 bel lt1) (trodAll_cons_mk (Below.trod laidOut (by kernel_rfl) (of_decide_eq_true (by kernel_rfl)) k2 bel lt2) trodAll_mk0))), rfl, bel.frame _, fun h => by cases h⟩

theorem proved : Rows.StoreLastsUptoSaid :=
  OpenClaim.holds_of_cond 5 Try.f5 rfl rfl rfl rfl rfl rfl rfl ⟨rfl, rfl, rfl, rfl, rfl⟩ rfl rfl rfl rfl rfl (by kernel_rfl) Try.func5 (by kernel_rfl)
    (of_decide_eq_true (by kernel_rfl)) (by unfold Func.isWrapper; first | (rw [if_pos (by decide +kernel)]; kernel_rfl) | (rw [if_neg (by decide +kernel)]; exact ⟨rfl, rfl⟩))
    (fun os started H enc _ F => lifted os started H enc F)
#print axioms proved
end Go.Proofs.Ytekmjhenhgmpgaa.storeLasts
