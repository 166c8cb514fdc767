/- The statement StoreRuns: its walk and its frame. -/
import Derived.Test.YtekmjhenhgmpgaaGreatMI
import Derived.Test.YtekmjhenhgmpgaaGreatRows
import Derived.JoinedCond
import Derived.WalkKit
import Derived.ProofKit
import Derived.OpenShut
import Derived.ShutString
import Derived.ChangeOld
import Derived.Below

/- Call by call a store answers what the document says, with the same bytes in its file: the walk of the law. -/
namespace Go.Proofs.YtekmjhenhgmpgaaGreat
open Go.RowKit
set_option maxRecDepth 100000

set_option maxHeartbeats 8000000 in
theorem walk_Runs {w : World} (fuel : Int) (hwf : (Lit.int .i64 fuel).wf = true) (ao : Option Addr) (cap : Nat) (l : List CallS) (hl : CallsS w ao l) :
    Calls Tryz.prog 3 #[.int .i64 fuel, .slice ao l.length cap] w fun e w' => e = .returned (.bool true) ∧ Only NoBlock w w' := by
  have hlen := hl.len
  have hwb := wf_both hwf
  go_enter Tryz.func3, Tryz.ntmps3
  go_wp2_with fail
  refine (begun8_ok w).mono ?_
  rintro e w2 ⟨rfl, hn2⟩
  go_wp2_with fail
  refine (light_at w2 ao cap l (hl.keeps hn2)).mono ?_
  rintro e w3 ⟨he, ho3⟩
  have hn3 := hn2.trans ho3
  clear hn2 ho3
  by_cases hlw : Lt.lw l ≤ 400
  · rw [decide_eq_true hlw] at he
    subst he
    go_wp2_with fail
    refine (new_ok w3 60000 (by omega) (by omega)).mono ?_
    rintro e w4 ⟨rfl, hd4, ho4, hs4⟩
    have hn4 := hn3.trans ho4
    obtain ⟨mb, hmb⟩ : ∃ mb, w3.heap.size = mb := ⟨_, rfl⟩
    rw [hmb] at hd4 hs4 ⊢
    obtain ⟨d, hd⟩ : ∃ d, mb + 1 = d := ⟨_, rfl⟩
    rw [hd] at hd4 ⊢
    have hz3 := hn3.size
    have hwd : w.heap.size ≤ mb := by omega
    have hz4 : d < w4.heap.size := by omega
    clear hn3 hs4 hmb ho4
    go_wp2_with fail
    refine (rnew_ok w4 60000 (by omega) (by omega)).mono ?_
    rintro e w5 ⟨rfl, hr5, ho5⟩
    have hd5 := hd4.keeps ho5 (fun h => h) (fun h => h)
    have hn5 := hn4.trans ho5
    obtain ⟨r, hr⟩ : ∃ r, w4.heap.size = r := ⟨_, rfl⟩
    rw [hr] at hr5 hz4 ⊢
    clear hr hd4 hn4 ho5
    obtain ⟨M0, hM0⟩ : ∃ M0, DM.new 60000 = M0 := ⟨_, rfl⟩
    rw [hM0] at hd5 hr5
    have HM0 := Lib.hid hM0
    clear hM0
    have hrd : r ≠ d ∧ r ≠ mb := by omega
    go_wp2_with fail
    refine (fuel_at w5 d mb _ fuel (by omega) hd5).mono ?_
    rintro e w6 ⟨rfl, hd6, ho6⟩
    have hr6 := hr5.keeps ho6 (fun e => e.elim hrd.1 hrd.2)
    have hn6 := hn5.andThen ho6 (by rintro i hi (e | e) <;> omega)
    clear hd5 hr5 ho6 hn5
    have c2 := hr6.cFuel
    have f2 := hr6.free 49
    go_upto_region 9 with fail
    obtain ⟨F, hF⟩ : ∃ F, (if fuel < -1 then (-1 : Int) else fuel) = F := ⟨_, rfl⟩
    rw [hF]
    have hMF : M0.setFuel fuel = { M0 with fuel := F } := by rw [← hF]; rfl
    have hFb : -1 ≤ F ∧ F ≤ 9223372036854775807 := by rw [← hF]; split <;> omega
    rw [hMF] at hd6
    have hq : Only (fun k => k = r) w6 (w6.setCell ⟨r, 49, none⟩ (.int .i64 F)) := Only.one (S := fun k => k = r) rfl _
    have hr7 := ref_fueled8 hr6 F hFb.1 hFb.2
    have hd7 := hd6.keeps hq (fun e => hrd.1 e.symm) (fun e => hrd.2 e.symm)
    have hn7 := hn6.andThen hq (by rintro i hi e; omega)
    clear hd6 hr6 hq hn6 c2 f2 hMF hF hFb
    generalize w6.setCell ⟨r, 49, none⟩ (.int .i64 F) = w7 at hd7 hr7 hn7 ⊢
    have HF : RowKit.Hid (Wal.openL ({ M0 with fuel := F } : DM) 1 = []) := Lib.hid (by rw [← HM0.out]; rfl)
    clear HM0
    generalize ({ M0 with fuel := F } : DM) = M at hd7 hr7 HF
    have hok := hd7.ok
    have hol := Sto.open_len hok 1
    have hrl7 := hr7.lt
    have hz7 := hn7.size
    go_wp2_with fail
    refine (storeopen_at w7 d mb M 1 7 hd7 (by decide) (by omega) (fun b hb => Nat.le_trans (Wal.recs_short _ b hb) (by decide)) (by omega)).mono ?_
    rintro e w8 ⟨pt, x, rfl, hd8, ho8, hE8⟩
    have hr8 := hr7.keeps ho8 (fun e => e.elim hrd.1 hrd.2)
    have hn8 : Only NoBlock w w8 := hn7.andThen ho8 (by rintro i hi (e | e) <;> omega)
    clear hr7 hn7 hd7 ho8
    rcases hE8 with ⟨h0, t, g, st, hs6, rfl, htl, hL8, hS8, hV8⟩ | ⟨h0, rfl, rfl⟩
    · obtain ⟨v6, rfl, hv6⟩ := hV8
      obtain ⟨ao6, cap6, rfl⟩ := hv6.shape
      have hle := Sto.said_len _ _ _ hs6
      have hes0 : st.es.length ≤ 1000000000000 := by have : (Sto.first 7).es.length = 0 := rfl; omega
      have hfst : st = Sto.first 7 := by have h1 := hs6; rw [HF.out] at h1; exact (Option.some.inj h1).symm
      have hfl0 : RowKit.Hid (Sto.Jv st 0) := Lib.hid (by rw [hfst]; exact ⟨by decide +kernel, by decide⟩)
      have HS := Lib.hid hs6
      clear hs6 hle hol HF hfst
      obtain ⟨⟨ht, hv⟩, ⟨si, sj, sc, sd⟩, es⟩ := st
      unfold stCells at *
      simp only at hes0 ⊢
      rw [h0]
      have H0 := Lib.hid h0
      clear h0
      have hA := (Only.refl NoBlock w8).alloc (Obj.cells #[.int .u64 ht, .int .i64 hv, .int .u64 si, .int .u64 sj, .int .u64 sc, .string sd, .slice ao6 es.length cap6] 45)
      have hb9 := Blk.made w8 #[.int .u64 ht, .int .i64 hv, .int .u64 si, .int .u64 sj, .int .u64 sc, .string sd, .slice ao6 es.length cap6] 45
      have hz8 := hn8.size
      have hrl8 := hr8.lt
      go_upto_region 10 with fail
      generalize w8.alloc (Obj.cells #[.int .u64 ht, .int .i64 hv, .int .u64 si, .int .u64 sj, .int .u64 sc, .string sd, .slice ao6 es.length cap6] 45) = w9 at hA hb9 ⊢
      generalize w8.heap.size = P at hb9 hz8 hrl8 ⊢
      have hn9 := hn8.trans hA
      have hr9 := hr8.keeps hA (fun h => h)
      have hd9 := hd8.keeps hA (fun h => h) (fun h => h)
      have hl9 : LogAt w9 g d 1 := Blk.keeps hL8 hA (fun h => h)
      have hv9 := hv6.keeps hA (fun _ _ h => h)
      have hS9 : StoreAt w9 w7.heap.size t g ⟨⟨ht, hv⟩, ⟨si, sj, sc, sd⟩, es⟩ := hS8.keeps hA (fun h => h) (fun _ _ h => h)
      clear hA hn8 hr8 hd8 hL8 hv6 hS8
      have hP := hb9.lt
      go_wp2_with fail
      refine (ropen8_at w9 r M 1 7 hr9 hok (by omega)).mono ?_
      rintro e w10 ⟨pt, rfl, hr10, ho10, hE10⟩
      rcases hE10 with ⟨-, u, q, s8, hs8, rfl, hul, hq10, hU10⟩ | ⟨h0, -⟩
      rotate_left
      · exact absurd H0.out h0
      rw [HS.out] at hs8
      obtain rfl := Option.some.inj hs8
      rw [H0.out]
      have hrP : ¬ P = r := by omega
      have hb10 := hb9.keeps ho10 hrP
      have hlr : g ≠ r := by obtain ⟨_, cs, fi, so, th, hb, _⟩ := hr9; exact blk_apart hl9 hb (by decide)
      have hS10 : StoreAt w10 w7.heap.size t g ⟨⟨ht, hv⟩, ⟨si, sj, sc, sd⟩, es⟩ := hS9.keeps ho10 (show ¬ t = r by omega) (fun k hk => show ¬ k = r by omega)
      have hl10 : LogAt w10 g d 1 := Blk.keeps hl9 ho10 hlr
      have hd10 := hd9.keeps ho10 (fun e => hrd.1 e.symm) (fun e => hrd.2 e.symm)
      have hv10 : EntsIn w10 ao6 es := ((hv9.keeps ho10 (fun k hk => show ¬ k = r by have := (World.ownsRow.lt hv9.1 k hk).1; omega)).read (by omega)).1
      have hn10 : Only NoBlock w w10 := hn9.andThen ho10 (by rintro i hi e; omega)
      have hR10 : Sr w10 mb d mb r g q t u 1 (Sto.openM M 1 7) ⟨⟨ht, hv⟩, ⟨si, sj, sc, sd⟩, es⟩ := ⟨hd10, hr10, hl10, hq10, hS10.lower (by omega), hU10⟩
      obtain ⟨-, -, ao8, cap8, hu8, hl8⟩ := hU10
      simp only at hu8 hl8
      have hwu : w.heap.size ≤ u := by have := hn9.size; omega
      have hwt : w.heap.size ≤ t := by omega
      clear hs8 ho10 hS9 hl9 hd9 hv9 hn9 hS10 hl10 hd10 hr10 hq10 hr9 hb9 hok
      have hsame : ∀ W, Only NoBlock w10 W → Calls Tryz.prog 11 #[.agg #[.int .u64 ht, .int .i64 hv, .int .u64 si, .int .u64 sj, .int .u64 sc, .string sd, .slice ao6 es.length cap6], .agg #[.int .u64 ht, .int .i64 hv, .int .u64 si, .int .u64 sj, .int .u64 sc, .string sd, .slice ao8 es.length cap8]] W fun e w' => e = .returned (.bool true) ∧ Only NoBlock w10 w' := fun W hW => (same8_at W ⟨⟨ht, hv⟩, ⟨si, sj, sc, sd⟩, es⟩ ⟨⟨ht, hv⟩, ⟨si, sj, sc, sd⟩, es⟩ ao6 ao8 cap6 cap8 (hv10.keeps hW (fun _ _ h => h)) (hl8.keeps hW (fun _ _ h => h)) hes0 hes0).mono fun e w' ⟨he, ho⟩ => ⟨by rw [he]; simp, hW.trans ho⟩
      have c0 : w10.cell? ⟨P, 0, none⟩ = some (.int .u64 ht) := by rw [hb10.cell]; rfl
      have c1 : w10.cell? ⟨P, 1, none⟩ = some (.int .i64 hv) := by rw [hb10.cell]; rfl
      have c2 : w10.cell? ⟨P, 2, none⟩ = some (.int .u64 si) := by rw [hb10.cell]; rfl
      have c3 : w10.cell? ⟨P, 3, none⟩ = some (.int .u64 sj) := by rw [hb10.cell]; rfl
      have c4 : w10.cell? ⟨P, 4, none⟩ = some (.int .u64 sc) := by rw [hb10.cell]; rfl
      have c5 : w10.cell? ⟨P, 5, none⟩ = some (.string sd) := by rw [hb10.cell]; rfl
      have c6 : w10.cell? ⟨P, 6, none⟩ = some (.slice ao6 es.length cap6) := by rw [hb10.cell]; rfl
      have d1 : w10.cell? ⟨u, 1, none⟩ = some (.int .u64 ht) := by rw [hu8.cell]; rfl
      have d2 : w10.cell? ⟨u, 2, none⟩ = some (.int .i64 hv) := by rw [hu8.cell]; rfl
      have d3 : w10.cell? ⟨u, 3, none⟩ = some (.int .u64 si) := by rw [hu8.cell]; rfl
      have d4 : w10.cell? ⟨u, 4, none⟩ = some (.int .u64 sj) := by rw [hu8.cell]; rfl
      have d5 : w10.cell? ⟨u, 5, none⟩ = some (.int .u64 sc) := by rw [hu8.cell]; rfl
      have d6 : w10.cell? ⟨u, 6, none⟩ = some (.string sd) := by rw [hu8.cell]; rfl
      have d7 : w10.cell? ⟨u, 7, none⟩ = some (.slice ao8 es.length cap8) := by rw [hu8.cell]; rfl
      have hO1 : Only NoBlock w10 w10.drew := (Only.refl _ _).drew
      go_wp2_with fail
      go_region_held3 (fun w' => w'.cell? ⟨P, 0, none⟩ = some (.int .u64 ht) ∧ w'.cell? ⟨P, 1, none⟩ = some (.int .i64 hv) ∧ w'.cell? ⟨P, 2, none⟩ = some (.int .u64 si) ∧ w'.cell? ⟨P, 3, none⟩ = some (.int .u64 sj) ∧ w'.cell? ⟨P, 4, none⟩ = some (.int .u64 sc) ∧ w'.cell? ⟨P, 5, none⟩ = some (.string sd) ∧ w'.cell? ⟨P, 6, none⟩ = some (.slice ao6 es.length cap6) ∧ w'.cell? ⟨u, 1, none⟩ = some (.int .u64 ht) ∧ w'.cell? ⟨u, 2, none⟩ = some (.int .i64 hv) ∧ w'.cell? ⟨u, 3, none⟩ = some (.int .u64 si) ∧ w'.cell? ⟨u, 4, none⟩ = some (.int .u64 sj) ∧ w'.cell? ⟨u, 5, none⟩ = some (.int .u64 sc) ∧ w'.cell? ⟨u, 6, none⟩ = some (.string sd) ∧ w'.cell? ⟨u, 7, none⟩ = some (.slice ao8 es.length cap8))
        (first | with_reducible exact ⟨c0, c1, c2, c3, c4, c5, c6, d1, d2, d3, d4, d5, d6, d7⟩ | go_keep)
        ((go_at_call 11; refine (hsame _ (by with_reducible exact hO1)).mono ?_; rintro e w11 ⟨rfl, hO11⟩; have hp11 := hb10.keeps hO11 (fun h => h); have hu11 := hu8.keeps hO11 (fun h => h)
          have c0 : w11.cell? ⟨P, 0, none⟩ = some (.int .u64 ht) := by rw [hp11.cell]; rfl
          have c1 : w11.cell? ⟨P, 1, none⟩ = some (.int .i64 hv) := by rw [hp11.cell]; rfl
          have c2 : w11.cell? ⟨P, 2, none⟩ = some (.int .u64 si) := by rw [hp11.cell]; rfl
          have c3 : w11.cell? ⟨P, 3, none⟩ = some (.int .u64 sj) := by rw [hp11.cell]; rfl
          have c4 : w11.cell? ⟨P, 4, none⟩ = some (.int .u64 sc) := by rw [hp11.cell]; rfl
          have c5 : w11.cell? ⟨P, 5, none⟩ = some (.string sd) := by rw [hp11.cell]; rfl
          have c6 : w11.cell? ⟨P, 6, none⟩ = some (.slice ao6 es.length cap6) := by rw [hp11.cell]; rfl
          have d1 : w11.cell? ⟨u, 1, none⟩ = some (.int .u64 ht) := by rw [hu11.cell]; rfl
          have d2 : w11.cell? ⟨u, 2, none⟩ = some (.int .i64 hv) := by rw [hu11.cell]; rfl
          have d3 : w11.cell? ⟨u, 3, none⟩ = some (.int .u64 si) := by rw [hu11.cell]; rfl
          have d4 : w11.cell? ⟨u, 4, none⟩ = some (.int .u64 sj) := by rw [hu11.cell]; rfl
          have d5 : w11.cell? ⟨u, 5, none⟩ = some (.int .u64 sc) := by rw [hu11.cell]; rfl
          have d6 : w11.cell? ⟨u, 6, none⟩ = some (.string sd) := by rw [hu11.cell]; rfl
          have d7 : w11.cell? ⟨u, 7, none⟩ = some (.slice ao8 es.length cap8) := by rw [hu11.cell]; rfl))
      have hn11 := hn10.trans hO11
      have hR11 := hR10.keeps hO11
      clear hsame hO1 hO11 hp11 hu11 hb10 hu8 hl8 hv10 hn10 hR10 HS H0
      go_wp2_with fail
      generalize Sto.openM M 1 7 = M1 at hR11
      go_loopw [74] (fun u74 wr => ∃ (k : Nat) (M : DM) (s : St), k ≤ l.length ∧ u74 = .int .i64 k ∧ Sr wr mb d mb r g q t u 1 M s ∧ RowKit.Hid (Sto.Jv s (Lt.lw (l.take k))) ∧ Only NoBlock w wr) (fun u74 _ => l.length - (intOf u74).toNat)
      case atStart => exact ⟨0, M1, _, by omega, rfl, hR11, Lib.hid (hfl0.out.more (Nat.zero_le _)), hn11⟩
      case round =>
        clear hR11 hn11 hfl0 hes0
        obtain ⟨k, M, s, hk, rfl, hR12, HJ, hn12⟩ := hrel
        by_cases hlt : k < l.length
        · have hl12 := hl.keeps hn12
          obtain ⟨b, off, rfl, hc⟩ := hl12.call k hlt
          obtain ⟨c0, c1, c2, c3, c4, c5, c6, c7⟩ := hc
          have hfew := hl.few k hlt
          have hdat := hl.dat k hlt
          have hsdat := hl.sdat k hlt
          have hhd := hl.hard k hlt
          have hsw := hl.snap k hlt
          have hold := hl.old k hlt
          have hin := hl12.ents k hlt
          have hsn := Lt.lw_snoc hlt
          have htk := Sto.lw_take_le l (k + 1)
          have hcw : Lt.cw (l.getD k CallS.zero) = 1 + (l.getD k CallS.zero).es.length + (l.getD k CallS.zero).snap.data.size / 50 + Lt.es (l.getD k CallS.zero).es := rfl
          clear hl12
          generalize l.getD k CallS.zero = c at *
          obtain ⟨ca, ⟨ct, cv⟩, ⟨ci, cj, cc, cd⟩, ao2, cap2, cl⟩ := c
          simp only at c0 c1 c2 c3 c4 c5 c6 c7 hfew hdat hsdat hhd hsw hold hin hcw
          have hm : Lt.lw (l.take k) + (1 + cl.length + cd.size / 50 + Lt.es cl) ≤ 400 := by omega
          have hsl := HJ.out.len
          have HOLD := Lib.hid hold
          have HSL : RowKit.Hid (s.es.length ≤ 1200) := Lib.hid (by omega)
          have HSD := Lib.hid HJ.out.dat
          have HM := Lib.hid hm
          have HSN : RowKit.Hid (Lt.lw (l.take (k + 1)) = Lt.lw (l.take k) + (1 + cl.length + cd.size / 50 + Lt.es cl)) := Lib.hid (by omega)
          have HDAT : RowKit.Hid (∀ e ∈ cl, e.data.size ≤ 1000000000) := Lib.hid (fun e he => Nat.le_trans (hdat e he) (by decide))
          have HHD := Lib.hid hhd
          have HSW := Lib.hid hsw
          clear hsl hcw htk hsn hold hm hdat hhd hsw
          have hAc := (Only.refl NoBlock wr).alloc (Obj.cells #[.bool ca, .int .u64 ct, .int .i64 cv, .int .u64 ci, .int .u64 cj, .int .u64 cc, .string cd, .slice ao2 cl.length cap2] 57)
          have hbc := Blk.made wr #[.bool ca, .int .u64 ct, .int .i64 cv, .int .u64 ci, .int .u64 cj, .int .u64 cc, .string cd, .slice ao2 cl.length cap2] 57
          go_upto_region 18 with fail
          have hR13 := hR12.keeps hAc
          have hin13 := hin.keeps hAc (fun _ _ h => h)
          have hn13 := hn12.trans hAc
          generalize wr.heap.size = Pc at hbc ⊢
          generalize wr.alloc (Obj.cells #[.bool ca, .int .u64 ct, .int .i64 cv, .int .u64 ci, .int .u64 cj, .int .u64 cc, .string cd, .slice ao2 cl.length cap2] 57) = w13 at hR13 hin13 hn13 hbc ⊢
          clear c0 c1 c2 c3 c4 c5 c6 c7 hAc hR12 hin hn12
          have hz13 := hR13.disk.files.lt
          have c0 : w13.cell? ⟨Pc, 0, none⟩ = some (.bool ca) := by rw [hbc.cell]; rfl
          have c1 : w13.cell? ⟨Pc, 1, none⟩ = some (.int .u64 ct) := by rw [hbc.cell]; rfl
          have c2 : w13.cell? ⟨Pc, 2, none⟩ = some (.int .i64 cv) := by rw [hbc.cell]; rfl
          have c3 : w13.cell? ⟨Pc, 3, none⟩ = some (.int .u64 ci) := by rw [hbc.cell]; rfl
          have c4 : w13.cell? ⟨Pc, 4, none⟩ = some (.int .u64 cj) := by rw [hbc.cell]; rfl
          have c5 : w13.cell? ⟨Pc, 5, none⟩ = some (.int .u64 cc) := by rw [hbc.cell]; rfl
          have c6 : w13.cell? ⟨Pc, 6, none⟩ = some (.string cd) := by rw [hbc.cell]; rfl
          have c7 : w13.cell? ⟨Pc, 7, none⟩ = some (.slice ao2 cl.length cap2) := by rw [hbc.cell]; rfl
          have hOd : Only NoBlock w13 w13.drew := (Only.refl _ _).drew
          have hRd := hR13.keeps hOd
          have hid := hin13.keeps hOd (fun _ _ h => h)
          have hnd := hn13.trans hOd
          have hbd := hbc.keeps hOd (fun h => h)
          have hPt := hR13.sto.apart hbc (by decide)
          have hPd : Pc ≠ d := blk_apart hbc hR13.disk.blk (by decide)
          have hPm : Pc ≠ mb := files_apart hR13.disk hbc
          have hPr : Pc ≠ r := by obtain ⟨_, cs, fi, so, th, hb, _⟩ := hR13.ref; exact blk_apart hbc hb (by decide)
          have hPu : Pc ≠ u := by obtain ⟨_, _, _, _, hb, _⟩ := hR13.rsto; exact blk_apart hbc hb (by decide)
          cases ca with
          | false =>
            obtain ⟨E, hE⟩ : ∃ E, Sto.saveE M 1 s ⟨ct, cv⟩ cl = E := ⟨_, rfl⟩
            obtain ⟨M', hM'⟩ : ∃ M', Sto.saveM M 1 s ⟨ct, cv⟩ cl = M' := ⟨_, rfl⟩
            obtain ⟨s', hs'⟩ : ∃ s', Sto.saveS M 1 s ⟨ct, cv⟩ cl = s' := ⟨_, rfl⟩
            have HE := Lib.hid hE
            have HM' := Lib.hid hM'
            have HS' := Lib.hid hs'
            have HJ' : RowKit.Hid (Sto.Jv s' (Lt.lw (l.take (k + 1)))) := Lib.hid (by rw [← hs']; exact (HJ.out.save HHD.out hin13.wf (by have := HM.out; omega) M 1).more (by have := HSN.out; omega))
            have HO : RowKit.Hid ((Wal.text (Sto.out s ⟨ct, cv⟩ cl)).size ≤ 1000000000) := Lib.hid (by have := (Sto.out_short (s := s) HHD.out hin13.wf (by have := HM.out; omega)).2.1; have := HM.out; omega)
            clear hE hM' hs'
            go_wp2_with fail
            go_region_held3 (fun w' => w'.cell? ⟨Pc, 0, none⟩ = some (.bool false) ∧ w'.cell? ⟨Pc, 1, none⟩ = some (.int .u64 ct) ∧ w'.cell? ⟨Pc, 2, none⟩ = some (.int .i64 cv) ∧ w'.cell? ⟨Pc, 3, none⟩ = some (.int .u64 ci) ∧ w'.cell? ⟨Pc, 4, none⟩ = some (.int .u64 cj) ∧ w'.cell? ⟨Pc, 5, none⟩ = some (.int .u64 cc) ∧ w'.cell? ⟨Pc, 6, none⟩ = some (.string cd) ∧ w'.cell? ⟨Pc, 7, none⟩ = some (.slice ao2 cl.length cap2))
              (first | with_reducible exact ⟨c0, c1, c2, c3, c4, c5, c6, c7⟩ | go_keep)
              (first
               | (go_at_call 14; refine (save_as (h := ⟨ct, cv⟩) HHD.out hRd.disk (by decide) hRd.log hRd.sto (Nat.le_of_lt hRd.disk.files.lt) hid rfl (by have := HSL.out; omega) (by omega) HDAT.out HO.out HE.out HM'.out HS'.out).mono ?_; rintro e w14 ⟨rfl, hd14, hst14, ho14⟩; have hmid := hRd.mid ho14; have hb14 := hbd.keeps ho14 (fun e => e.elim hPd (fun e => e.elim hPm (fun e => hPt e.symm))); have hn14 : Only NoBlock w w14 := hnd.andThen ho14 (by rintro i hi (e | e | e) <;> omega)
                  have c0 : w14.cell? ⟨Pc, 0, none⟩ = some (.bool false) := by rw [hb14.cell]; rfl
                  have c1 : w14.cell? ⟨Pc, 1, none⟩ = some (.int .u64 ct) := by rw [hb14.cell]; rfl
                  have c2 : w14.cell? ⟨Pc, 2, none⟩ = some (.int .i64 cv) := by rw [hb14.cell]; rfl
                  have c3 : w14.cell? ⟨Pc, 3, none⟩ = some (.int .u64 ci) := by rw [hb14.cell]; rfl
                  have c4 : w14.cell? ⟨Pc, 4, none⟩ = some (.int .u64 cj) := by rw [hb14.cell]; rfl
                  have c5 : w14.cell? ⟨Pc, 5, none⟩ = some (.int .u64 cc) := by rw [hb14.cell]; rfl
                  have c6 : w14.cell? ⟨Pc, 6, none⟩ = some (.string cd) := by rw [hb14.cell]; rfl
                  have c7 : w14.cell? ⟨Pc, 7, none⟩ = some (.slice ao2 cl.length cap2) := by rw [hb14.cell]; rfl
                  have hi14 := ents_far HOLD.out hid ho14 (by rintro k (e | e | e) <;> omega))
               | (go_at_call 15; refine (rsave8_as (h := ⟨ct, cv⟩) HHD.out hmid.1 hmid.2.2.1 hmid.2.2.2 (by have := HSL.out; omega) HSD.out hi14 rfl (by omega) HDAT.out HO.out HE.out HM'.out HS'.out).mono ?_; rintro e w15 ⟨rfl, hr15, hu15, ho15⟩; have hb15 := hb14.keeps ho15 (fun e => e.elim hPr hPu); have hn15 : Only NoBlock w w15 := hn14.andThen ho15 (by rintro i hi (e | e) <;> omega); have hR15 := Sr.end hd14 hst14 hmid.2.1 hmid.2.2.1 hmid.1 hmid.2.2.2 hr15 hu15 ho15
                  have c0 : w15.cell? ⟨Pc, 0, none⟩ = some (.bool false) := by rw [hb15.cell]; rfl
                  have c1 : w15.cell? ⟨Pc, 1, none⟩ = some (.int .u64 ct) := by rw [hb15.cell]; rfl
                  have c2 : w15.cell? ⟨Pc, 2, none⟩ = some (.int .i64 cv) := by rw [hb15.cell]; rfl
                  have c3 : w15.cell? ⟨Pc, 3, none⟩ = some (.int .u64 ci) := by rw [hb15.cell]; rfl
                  have c4 : w15.cell? ⟨Pc, 4, none⟩ = some (.int .u64 cj) := by rw [hb15.cell]; rfl
                  have c5 : w15.cell? ⟨Pc, 5, none⟩ = some (.int .u64 cc) := by rw [hb15.cell]; rfl
                  have c6 : w15.cell? ⟨Pc, 6, none⟩ = some (.string cd) := by rw [hb15.cell]; rfl
                  have c7 : w15.cell? ⟨Pc, 7, none⟩ = some (.slice ao2 cl.length cap2) := by rw [hb15.cell]; rfl))
            clear hRd hid hnd hbd hmid hb14 hn14 hd14 hst14 ho14 hi14 hr15 hu15 ho15 hR13 hin13 hn13 hbc hOd HE HM' HS' HO HOLD HSD HDAT HHD HSW hb15
            go_wp2_with fail
            refine (read_as hR15.disk (by decide) rfl rfl).mono ?_
            rintro e w16 ⟨rfl, hO16⟩
            have hR16 := hR15.keeps hO16
            have hn16 := hn15.trans hO16
            clear hR15 hn15 hO16
            go_wp2_with fail
            refine (R5.rread_as hR16.ref rfl rfl).mono ?_
            rintro e w17 ⟨rfl, hO17⟩
            have hR17 := hR16.keeps hO17
            have hn17 := hn16.trans hO17
            have HR17 := Lib.hid hR17
            clear hR16 hn16 hO17 hR17
            have hJl : s'.es.length ≤ 1000000000000 := by have h1 := HJ'.out.len; have h2 := HSN.out; have h3 := HM.out; omega
            obtain ⟨⟨ht, hv⟩, ⟨si, sj, sc, sd⟩, es⟩ := s'
            simp only at hJl
            have hu8 := HR17.out.rsto
            obtain ⟨-, -, ao8, cap8, hu8, hl8⟩ := hu8
            simp only at hu8 hl8
            have hstate : ∀ W, Only NoBlock w17 W → Calls Tryz.prog 18 #[.pointer (some ⟨t, 0, none⟩)] W fun e w' => ∃ ao9 cap9, e = .returned (.agg #[.int .u64 ht, .int .i64 hv, .int .u64 si, .int .u64 sj, .int .u64 sc, .string sd, .slice ao9 es.length cap9]) ∧ EntsIn w' ao9 es ∧ Only NoBlock w17 w' := fun W hW => (state_at W mb t g _ (HR17.out.sto.keeps hW (fun h => h) (fun _ _ h => h)) hJl).mono fun e w' ⟨x, he, ⟨v, hv, hE⟩, ho⟩ => by
              obtain ⟨ao9, cap9, rfl⟩ := hE.shape
              exact ⟨ao9, cap9, by rw [he, hv]; rfl, (hE.read (by simp only; omega)).1, hW.trans ho⟩
            have hsame2 : ∀ W ao9 cap9, EntsIn W ao9 es → Only NoBlock w17 W → Calls Tryz.prog 11 #[.agg #[.int .u64 ht, .int .i64 hv, .int .u64 si, .int .u64 sj, .int .u64 sc, .string sd, .slice ao9 es.length cap9], .agg #[.int .u64 ht, .int .i64 hv, .int .u64 si, .int .u64 sj, .int .u64 sc, .string sd, .slice ao8 es.length cap8]] W fun e w' => e = .returned (.bool true) ∧ Only NoBlock w17 w' := fun W ao9 cap9 h9 hW => (same8_at W ⟨⟨ht, hv⟩, ⟨si, sj, sc, sd⟩, es⟩ ⟨⟨ht, hv⟩, ⟨si, sj, sc, sd⟩, es⟩ ao9 ao8 cap9 cap8 h9 (hl8.keeps hW (fun _ _ h => h)) hJl hJl).mono fun e w' ⟨he, ho⟩ => ⟨by rw [he]; simp, hW.trans ho⟩
            have d1 : w17.cell? ⟨u, 1, none⟩ = some (.int .u64 ht) := by rw [hu8.cell]; rfl
            have d2 : w17.cell? ⟨u, 2, none⟩ = some (.int .i64 hv) := by rw [hu8.cell]; rfl
            have d3 : w17.cell? ⟨u, 3, none⟩ = some (.int .u64 si) := by rw [hu8.cell]; rfl
            have d4 : w17.cell? ⟨u, 4, none⟩ = some (.int .u64 sj) := by rw [hu8.cell]; rfl
            have d5 : w17.cell? ⟨u, 5, none⟩ = some (.int .u64 sc) := by rw [hu8.cell]; rfl
            have d6 : w17.cell? ⟨u, 6, none⟩ = some (.string sd) := by rw [hu8.cell]; rfl
            have d7 : w17.cell? ⟨u, 7, none⟩ = some (.slice ao8 es.length cap8) := by rw [hu8.cell]; rfl
            have hO1 : Only NoBlock w17 w17.drew := (Only.refl _ _).drew
            go_wp2_with fail
            go_region_held3 (fun w' => w'.cell? ⟨u, 1, none⟩ = some (.int .u64 ht) ∧ w'.cell? ⟨u, 2, none⟩ = some (.int .i64 hv) ∧ w'.cell? ⟨u, 3, none⟩ = some (.int .u64 si) ∧ w'.cell? ⟨u, 4, none⟩ = some (.int .u64 sj) ∧ w'.cell? ⟨u, 5, none⟩ = some (.int .u64 sc) ∧ w'.cell? ⟨u, 6, none⟩ = some (.string sd) ∧ w'.cell? ⟨u, 7, none⟩ = some (.slice ao8 es.length cap8))
              (first | with_reducible exact ⟨d1, d2, d3, d4, d5, d6, d7⟩ | go_keep)
              (first
               | (go_at_call 18; refine (hstate _ (by with_reducible exact hO1)).mono ?_; rintro e w18 ⟨ao9, cap9, rfl, hl18, hO18⟩; have hu18 := hu8.keeps hO18 (fun h => h)
                  have d1 : w18.cell? ⟨u, 1, none⟩ = some (.int .u64 ht) := by rw [hu18.cell]; rfl
                  have d2 : w18.cell? ⟨u, 2, none⟩ = some (.int .i64 hv) := by rw [hu18.cell]; rfl
                  have d3 : w18.cell? ⟨u, 3, none⟩ = some (.int .u64 si) := by rw [hu18.cell]; rfl
                  have d4 : w18.cell? ⟨u, 4, none⟩ = some (.int .u64 sj) := by rw [hu18.cell]; rfl
                  have d5 : w18.cell? ⟨u, 5, none⟩ = some (.int .u64 sc) := by rw [hu18.cell]; rfl
                  have d6 : w18.cell? ⟨u, 6, none⟩ = some (.string sd) := by rw [hu18.cell]; rfl
                  have d7 : w18.cell? ⟨u, 7, none⟩ = some (.slice ao8 es.length cap8) := by rw [hu18.cell]; rfl)
               | (go_at_call 11; refine (hsame2 _ _ _ (by with_reducible exact hl18) (by with_reducible exact hO18)).mono ?_; rintro e w19 ⟨rfl, hO19⟩; have hu19 := hu8.keeps hO19 (fun h => h)
                  have d1 : w19.cell? ⟨u, 1, none⟩ = some (.int .u64 ht) := by rw [hu19.cell]; rfl
                  have d2 : w19.cell? ⟨u, 2, none⟩ = some (.int .i64 hv) := by rw [hu19.cell]; rfl
                  have d3 : w19.cell? ⟨u, 3, none⟩ = some (.int .u64 si) := by rw [hu19.cell]; rfl
                  have d4 : w19.cell? ⟨u, 4, none⟩ = some (.int .u64 sj) := by rw [hu19.cell]; rfl
                  have d5 : w19.cell? ⟨u, 5, none⟩ = some (.int .u64 sc) := by rw [hu19.cell]; rfl
                  have d6 : w19.cell? ⟨u, 6, none⟩ = some (.string sd) := by rw [hu19.cell]; rfl
                  have d7 : w19.cell? ⟨u, 7, none⟩ = some (.slice ao8 es.length cap8) := by rw [hu19.cell]; rfl))
            go_wp2_with fail
            go_roundw
            case rel =>
              first
                | exact ⟨k + 1, M', _, by omega, by go_num, HR17.out.keeps hO19, HJ', hn17.trans hO19⟩
                | ((repeat apply Exists.intro); exact ⟨⟨k + 1, M', _, by omega, by go_num, HR17.out.keeps hO19, HJ', hn17.trans hO19⟩, rfl⟩)
            case measure => simp [intOf]; omega
          | true =>
            obtain ⟨E, hE⟩ : ∃ E, Sto.anewE M 1 ⟨⟨ct, cv⟩, ⟨ci, cj, cc, cd⟩, cl⟩ = E := ⟨_, rfl⟩
            obtain ⟨M', hM'⟩ : ∃ M', Sto.anewM M 1 ⟨⟨ct, cv⟩, ⟨ci, cj, cc, cd⟩, cl⟩ = M' := ⟨_, rfl⟩
            obtain ⟨s', hs'⟩ : ∃ s', Sto.anewS M 1 s ⟨⟨ct, cv⟩, ⟨ci, cj, cc, cd⟩, cl⟩ = s' := ⟨_, rfl⟩
            have HE := Lib.hid hE
            have HM' := Lib.hid hM'
            have HS' := Lib.hid hs'
            have HJ' : RowKit.Hid (Sto.Jv s' (Lt.lw (l.take (k + 1)))) := Lib.hid (by rw [← hs']; exact (HJ.out.anew (c := ⟨⟨ct, cv⟩, ⟨ci, cj, cc, cd⟩, cl⟩) M 1).more (by have := HSN.out; simp only; omega))
            have HO : RowKit.Hid ((Wal.text (Sto.anewR ⟨⟨ct, cv⟩, ⟨ci, cj, cc, cd⟩, cl⟩)).size ≤ 1000000000) := Lib.hid (by have := (Sto.anewR_short (s := ⟨⟨ct, cv⟩, ⟨ci, cj, cc, cd⟩, cl⟩) HHD.out HSW.out hin13.wf (by have := HM.out; simp only; omega) (by have := HM.out; simp only; omega)).2; simp only at this; have := HM.out; omega)
            clear hE hM' hs'
            go_wp2_with fail
            go_region_held3 (fun w' => w'.cell? ⟨Pc, 0, none⟩ = some (.bool true) ∧ w'.cell? ⟨Pc, 1, none⟩ = some (.int .u64 ct) ∧ w'.cell? ⟨Pc, 2, none⟩ = some (.int .i64 cv) ∧ w'.cell? ⟨Pc, 3, none⟩ = some (.int .u64 ci) ∧ w'.cell? ⟨Pc, 4, none⟩ = some (.int .u64 cj) ∧ w'.cell? ⟨Pc, 5, none⟩ = some (.int .u64 cc) ∧ w'.cell? ⟨Pc, 6, none⟩ = some (.string cd) ∧ w'.cell? ⟨Pc, 7, none⟩ = some (.slice ao2 cl.length cap2))
              (first | with_reducible exact ⟨c0, c1, c2, c3, c4, c5, c6, c7⟩ | go_keep)
              (first
               | (go_at_call 12; refine (sanew_as (c := ⟨⟨ct, cv⟩, ⟨ci, cj, cc, cd⟩, cl⟩) HHD.out HSW.out hid hRd.disk (by decide) hRd.log hRd.sto (Nat.le_of_lt hRd.disk.files.lt) (ents_old HOLD.out (by omega) (by omega)) (by simp only; omega) HDAT.out HO.out HE.out HM'.out HS'.out).mono ?_; rintro e w14 ⟨rfl, hd14, hst14, ho14⟩; have hmid := hRd.mid ho14; have hb14 := hbd.keeps ho14 (fun e => e.elim hPd (fun e => e.elim hPm (fun e => hPt e.symm))); have hn14 : Only NoBlock w w14 := hnd.andThen ho14 (by rintro i hi (e | e | e) <;> omega)
                  have c0 : w14.cell? ⟨Pc, 0, none⟩ = some (.bool true) := by rw [hb14.cell]; rfl
                  have c1 : w14.cell? ⟨Pc, 1, none⟩ = some (.int .u64 ct) := by rw [hb14.cell]; rfl
                  have c2 : w14.cell? ⟨Pc, 2, none⟩ = some (.int .i64 cv) := by rw [hb14.cell]; rfl
                  have c3 : w14.cell? ⟨Pc, 3, none⟩ = some (.int .u64 ci) := by rw [hb14.cell]; rfl
                  have c4 : w14.cell? ⟨Pc, 4, none⟩ = some (.int .u64 cj) := by rw [hb14.cell]; rfl
                  have c5 : w14.cell? ⟨Pc, 5, none⟩ = some (.int .u64 cc) := by rw [hb14.cell]; rfl
                  have c6 : w14.cell? ⟨Pc, 6, none⟩ = some (.string cd) := by rw [hb14.cell]; rfl
                  have c7 : w14.cell? ⟨Pc, 7, none⟩ = some (.slice ao2 cl.length cap2) := by rw [hb14.cell]; rfl
                  have hi14 := ents_far HOLD.out hid ho14 (by rintro k (e | e | e) <;> omega))
               | (go_at_call 13; refine (ranew8_as (c := ⟨⟨ct, cv⟩, ⟨ci, cj, cc, cd⟩, cl⟩) HHD.out HSW.out hi14 rfl hmid.1 hmid.2.2.1 hmid.2.2.2 (by simp only; omega) HDAT.out (by simp only; omega) HO.out HE.out HM'.out HS'.out).mono ?_; rintro e w15 ⟨rfl, hr15, hu15, ho15⟩; have hb15 := hb14.keeps ho15 (fun e => e.elim hPr hPu); have hn15 : Only NoBlock w w15 := hn14.andThen ho15 (by rintro i hi (e | e) <;> omega); have hR15 := Sr.end hd14 hst14 hmid.2.1 hmid.2.2.1 hmid.1 hmid.2.2.2 hr15 hu15 ho15
                  have c0 : w15.cell? ⟨Pc, 0, none⟩ = some (.bool true) := by rw [hb15.cell]; rfl
                  have c1 : w15.cell? ⟨Pc, 1, none⟩ = some (.int .u64 ct) := by rw [hb15.cell]; rfl
                  have c2 : w15.cell? ⟨Pc, 2, none⟩ = some (.int .i64 cv) := by rw [hb15.cell]; rfl
                  have c3 : w15.cell? ⟨Pc, 3, none⟩ = some (.int .u64 ci) := by rw [hb15.cell]; rfl
                  have c4 : w15.cell? ⟨Pc, 4, none⟩ = some (.int .u64 cj) := by rw [hb15.cell]; rfl
                  have c5 : w15.cell? ⟨Pc, 5, none⟩ = some (.int .u64 cc) := by rw [hb15.cell]; rfl
                  have c6 : w15.cell? ⟨Pc, 6, none⟩ = some (.string cd) := by rw [hb15.cell]; rfl
                  have c7 : w15.cell? ⟨Pc, 7, none⟩ = some (.slice ao2 cl.length cap2) := by rw [hb15.cell]; rfl))
            clear hRd hid hnd hbd hmid hb14 hn14 hd14 hst14 ho14 hi14 hr15 hu15 ho15 hR13 hin13 hn13 hbc hOd HE HM' HS' HO HOLD HSD HDAT HHD HSW hb15
            go_wp2_with fail
            refine (read_as hR15.disk (by decide) rfl rfl).mono ?_
            rintro e w16 ⟨rfl, hO16⟩
            have hR16 := hR15.keeps hO16
            have hn16 := hn15.trans hO16
            clear hR15 hn15 hO16
            go_wp2_with fail
            refine (R5.rread_as hR16.ref rfl rfl).mono ?_
            rintro e w17 ⟨rfl, hO17⟩
            have hR17 := hR16.keeps hO17
            have hn17 := hn16.trans hO17
            have HR17 := Lib.hid hR17
            clear hR16 hn16 hO17 hR17
            have hJl : s'.es.length ≤ 1000000000000 := by have h1 := HJ'.out.len; have h2 := HSN.out; have h3 := HM.out; omega
            obtain ⟨⟨ht, hv⟩, ⟨si, sj, sc, sd⟩, es⟩ := s'
            simp only at hJl
            have hu8 := HR17.out.rsto
            obtain ⟨-, -, ao8, cap8, hu8, hl8⟩ := hu8
            simp only at hu8 hl8
            have hstate : ∀ W, Only NoBlock w17 W → Calls Tryz.prog 18 #[.pointer (some ⟨t, 0, none⟩)] W fun e w' => ∃ ao9 cap9, e = .returned (.agg #[.int .u64 ht, .int .i64 hv, .int .u64 si, .int .u64 sj, .int .u64 sc, .string sd, .slice ao9 es.length cap9]) ∧ EntsIn w' ao9 es ∧ Only NoBlock w17 w' := fun W hW => (state_at W mb t g _ (HR17.out.sto.keeps hW (fun h => h) (fun _ _ h => h)) hJl).mono fun e w' ⟨x, he, ⟨v, hv, hE⟩, ho⟩ => by
              obtain ⟨ao9, cap9, rfl⟩ := hE.shape
              exact ⟨ao9, cap9, by rw [he, hv]; rfl, (hE.read (by simp only; omega)).1, hW.trans ho⟩
            have hsame2 : ∀ W ao9 cap9, EntsIn W ao9 es → Only NoBlock w17 W → Calls Tryz.prog 11 #[.agg #[.int .u64 ht, .int .i64 hv, .int .u64 si, .int .u64 sj, .int .u64 sc, .string sd, .slice ao9 es.length cap9], .agg #[.int .u64 ht, .int .i64 hv, .int .u64 si, .int .u64 sj, .int .u64 sc, .string sd, .slice ao8 es.length cap8]] W fun e w' => e = .returned (.bool true) ∧ Only NoBlock w17 w' := fun W ao9 cap9 h9 hW => (same8_at W ⟨⟨ht, hv⟩, ⟨si, sj, sc, sd⟩, es⟩ ⟨⟨ht, hv⟩, ⟨si, sj, sc, sd⟩, es⟩ ao9 ao8 cap9 cap8 h9 (hl8.keeps hW (fun _ _ h => h)) hJl hJl).mono fun e w' ⟨he, ho⟩ => ⟨by rw [he]; simp, hW.trans ho⟩
            have d1 : w17.cell? ⟨u, 1, none⟩ = some (.int .u64 ht) := by rw [hu8.cell]; rfl
            have d2 : w17.cell? ⟨u, 2, none⟩ = some (.int .i64 hv) := by rw [hu8.cell]; rfl
            have d3 : w17.cell? ⟨u, 3, none⟩ = some (.int .u64 si) := by rw [hu8.cell]; rfl
            have d4 : w17.cell? ⟨u, 4, none⟩ = some (.int .u64 sj) := by rw [hu8.cell]; rfl
            have d5 : w17.cell? ⟨u, 5, none⟩ = some (.int .u64 sc) := by rw [hu8.cell]; rfl
            have d6 : w17.cell? ⟨u, 6, none⟩ = some (.string sd) := by rw [hu8.cell]; rfl
            have d7 : w17.cell? ⟨u, 7, none⟩ = some (.slice ao8 es.length cap8) := by rw [hu8.cell]; rfl
            have hO1 : Only NoBlock w17 w17.drew := (Only.refl _ _).drew
            go_wp2_with fail
            go_region_held3 (fun w' => w'.cell? ⟨u, 1, none⟩ = some (.int .u64 ht) ∧ w'.cell? ⟨u, 2, none⟩ = some (.int .i64 hv) ∧ w'.cell? ⟨u, 3, none⟩ = some (.int .u64 si) ∧ w'.cell? ⟨u, 4, none⟩ = some (.int .u64 sj) ∧ w'.cell? ⟨u, 5, none⟩ = some (.int .u64 sc) ∧ w'.cell? ⟨u, 6, none⟩ = some (.string sd) ∧ w'.cell? ⟨u, 7, none⟩ = some (.slice ao8 es.length cap8))
              (first | with_reducible exact ⟨d1, d2, d3, d4, d5, d6, d7⟩ | go_keep)
              (first
               | (go_at_call 18; refine (hstate _ (by with_reducible exact hO1)).mono ?_; rintro e w18 ⟨ao9, cap9, rfl, hl18, hO18⟩; have hu18 := hu8.keeps hO18 (fun h => h)
                  have d1 : w18.cell? ⟨u, 1, none⟩ = some (.int .u64 ht) := by rw [hu18.cell]; rfl
                  have d2 : w18.cell? ⟨u, 2, none⟩ = some (.int .i64 hv) := by rw [hu18.cell]; rfl
                  have d3 : w18.cell? ⟨u, 3, none⟩ = some (.int .u64 si) := by rw [hu18.cell]; rfl
                  have d4 : w18.cell? ⟨u, 4, none⟩ = some (.int .u64 sj) := by rw [hu18.cell]; rfl
                  have d5 : w18.cell? ⟨u, 5, none⟩ = some (.int .u64 sc) := by rw [hu18.cell]; rfl
                  have d6 : w18.cell? ⟨u, 6, none⟩ = some (.string sd) := by rw [hu18.cell]; rfl
                  have d7 : w18.cell? ⟨u, 7, none⟩ = some (.slice ao8 es.length cap8) := by rw [hu18.cell]; rfl)
               | (go_at_call 11; refine (hsame2 _ _ _ (by with_reducible exact hl18) (by with_reducible exact hO18)).mono ?_; rintro e w19 ⟨rfl, hO19⟩; have hu19 := hu8.keeps hO19 (fun h => h)
                  have d1 : w19.cell? ⟨u, 1, none⟩ = some (.int .u64 ht) := by rw [hu19.cell]; rfl
                  have d2 : w19.cell? ⟨u, 2, none⟩ = some (.int .i64 hv) := by rw [hu19.cell]; rfl
                  have d3 : w19.cell? ⟨u, 3, none⟩ = some (.int .u64 si) := by rw [hu19.cell]; rfl
                  have d4 : w19.cell? ⟨u, 4, none⟩ = some (.int .u64 sj) := by rw [hu19.cell]; rfl
                  have d5 : w19.cell? ⟨u, 5, none⟩ = some (.int .u64 sc) := by rw [hu19.cell]; rfl
                  have d6 : w19.cell? ⟨u, 6, none⟩ = some (.string sd) := by rw [hu19.cell]; rfl
                  have d7 : w19.cell? ⟨u, 7, none⟩ = some (.slice ao8 es.length cap8) := by rw [hu19.cell]; rfl))
            go_wp2_with fail
            go_roundw
            case rel =>
              first
                | exact ⟨k + 1, M', _, by omega, by go_num, HR17.out.keeps hO19, HJ', hn17.trans hO19⟩
                | ((repeat apply Exists.intro); exact ⟨⟨k + 1, M', _, by omega, by go_num, HR17.out.keeps hO19, HJ', hn17.trans hO19⟩, rfl⟩)
            case measure => simp [intOf]; omega
        · obtain rfl : k = l.length := by omega
          go_wp2_with fail
          go_ret
          exact ⟨rfl, hn12⟩
    · have hA := (Only.refl NoBlock w8).alloc (Obj.cells #[.int .u64 0, .int .i64 0, .int .u64 0, .int .u64 0, .int .u64 0, .string { data := #[] }, .slice none 0 0] 45)
      have H0 := Lib.hid h0
      unfold noState
      go_upto_region 10 with fail
      generalize w8.alloc (Obj.cells #[.int .u64 0, .int .i64 0, .int .u64 0, .int .u64 0, .int .u64 0, .string { data := #[] }, .slice none 0 0] 45) = w9 at hA ⊢
      have hn9 := hn8.trans hA
      have hr9 := hr8.keeps hA (fun h => h)
      clear hn8 hr8 hA h0
      have hd0 : (Sto.openE M 1 7 != 0) = true := by simpa using H0.out
      have hq : RowKit.Hid (∀ W, RefAt W r M → Calls Tryz.prog 10 #[.pointer (some ⟨r, 0, none⟩), .int .i64 1, .int .u64 7] W fun e w' => e = .returned (.tuple #[.pointer none, .int .i64 (Sto.openE M 1 7)]) ∧ Only (fun k => k = r) W w') := Lib.hid (fun W hW => (ropen8_at W r M 1 7 hW hok (by omega)).mono fun e w' ⟨pt, he, _, ho, hE⟩ => by
        rcases hE with ⟨h0, _⟩ | ⟨_, rfl⟩
        · exact absurd h0 H0.out
        · exact ⟨he, ho⟩)
      generalize Sto.openE M 1 7 = k at *
      go_wp2_with fail
      refine (hq.out w9 hr9).mono ?_
      rintro e w10 ⟨rfl, ho10⟩
      have hn10 : Only NoBlock w w10 := hn9.andThen ho10 (by rintro i hi e; omega)
      clear hq
      go_wp2_with fail
      go_ret
      exact ⟨by simp, hn10⟩
  · rw [decide_eq_false hlw] at he
    subst he
    go_wp2_with fail
    go_ret
    exact ⟨rfl, hn3⟩
theorem walk_StoreRuns {w : World} (fuel : Int) (hwf : (Lit.int .i64 fuel).wf = true) (x : List CallS × Option Addr × Nat) (hx : CallsS w x.2.1 x.1) :
    Calls Tryz.prog 3 #[.int .i64 fuel, .slice x.2.1 x.1.length x.2.2] w fun e w' => e = .returned (.bool true) ∧ Below w.heap.size w w' :=
  (walk_Runs fuel hwf x.2.1 x.2.2 x.1 hx).mono fun e w' ⟨he, ho⟩ => ⟨he, ho.below (Nat.le_refl _) (fun _ h => h.elim)⟩
end Go.Proofs.YtekmjhenhgmpgaaGreat

/- The statement StoreRuns: for every input the law returns true, and each argument reads afterwards as before. Frame of the walk in LawStoreRuns. -/
namespace Go.Proofs.YtekmjhenhgmpgaaGreat.storeRuns
open Go.ChangeShapes Go.WideShapes Go.ChangeAt Go.RowKit
open Go.ChangeMaps (open_string shut_string)
set_option linter.unusedVariables false

theorem own : ownKnob Tryz.prog.godebug = none := by kernel_rfl
theorem laidOut : laidOutB Tryz.prog = true := by kernel_rfl
theorem u0 : Tryz.prog.underlying 3 = some (.int .i64) := by kernel_rfl
theorem ub : Tryz.prog.underlying 4 = some .bool := by kernel_rfl

set_option maxRecDepth 100000 in
theorem lifted (os : Os) (started : os.Started) (H : Type) (enc : TypeId × Value → H) (F : Stop.Interp) :
    ReturnsInHanded {} Tryz.checked os 3 .any ((Rows.OpenSpec.upto Rows.storeRunsSpec).pre6 enc Tryz.prog Tryz.f3 Rows.storeRunsUptoRow.domain false) (((Rows.OpenSpec.upto Rows.storeRunsSpec).at F).post enc Tryz.prog Tryz.f3 false true false false) := by
  refine returnsInHanded_of_cond (C := Tryz.checked) (s := Rows.OpenSpec.upto Rows.storeRunsSpec) (k := Rows.uptoSmall) rfl own started (by kernel_rfl) Tryz.func3
    (OpenSpec.witness (enc := enc) (C := Tryz.checked) (s := Rows.OpenSpec.upto Rows.storeRunsSpec) (k := Rows.uptoSmall) rfl false ⟨#[], #[.int .i64 0, .slice none 0 0], []⟩ 8 (by kernel_rfl) (by kernel_rfl) (by kernel_rfl)
      (x := ([.lit (.int .i64 0), .nil], [], [])) (by kernel_rfl) rfl (by kernel_rfl)) ?_
  intro W base args ds gs before hval0 hW hcnd hk0 _
  show Calls Tryz.prog 3 args W fun e W' => ∃ v, e = .returned v ∧ Rows.storeRunsSpec.post enc Tryz.prog Tryz.f3 false true false false W args v W'
  have hk : Rows.uptoBulkAll (ds ++ gs) ≤ 1048576 := of_decide_eq_true hk0
  have hval : ∀ (j : Nat) t v, Tryz.f3.params[j]? = some t → args[j]? = some v → Value.okWide Tryz.prog W .any base t v := hval0
  have hW' := hW
  obtain ⟨p, q, hA0, hV, rfl, hfz, hnd⟩ := hW
  have hA : DataW.TrodAll enc Tryz.prog W 0 (fun _ => true) true Tryz.f3.params.toList args.toList ds p := hA0
  rw [Tryz.params3] at hA hval
  obtain ⟨v0, vs0, d0, ds0, p0, q0, hargs, rfl, rfl, h0, r0⟩ := trodAll_cons hA
  obtain ⟨v1, vs1, d1, ds1, p1, q1, rfl, rfl, rfl, h1, r1⟩ := trodAll_cons r0
  obtain ⟨rfl, rfl, rfl⟩ := trodAll_nil r1
  obtain rfl : args = #[v0, v1] := by cases args; simp_all
  obtain ⟨rfl, rfl⟩ := trodVars_none hV
  have k0 := h0
  have lt0 : ∀ x ∈ p0, x.block < W.heap.size := by obtain ⟨m, hm⟩ := k0; exact DataW.trod_lt m _ _ _ hm
  have k1 := h1
  have lt1 : ∀ x ∈ p1, x.block < W.heap.size := by obtain ⟨m, hm⟩ := k1; exact DataW.trod_lt m _ _ _ hm
  simp only [Rows.uptoBulkAll, List.cons_append, List.nil_append, List.append_nil] at hk
  have b0 : Rows.uptoBulk d0 ≤ 1048576 := by omega
  have b1 : Rows.uptoBulk d1 ≤ 1048576 := by omega
  clear hk
  obtain ⟨a0, rfl, rfl, rfl, w0⟩ := open_int u0 (hval 0 3 v0 rfl rfl) h0
  obtain ⟨a1, rfl, w1⟩ := open_calls8 (hval 1 22 v1 rfl rfl) h1 b1
  clear hA0 hval0
  refine (walk_StoreRuns (w := W) a0 w0 a1 w1).mono fun e W' ⟨he, bel⟩ => ?_
  subst he
  exact ⟨_, rfl, _, _, _, [], _, [], hW', trodAll_mk1 (shut_bool ub _), (trodAll_cons_mk (Below.trod laidOut (by kernel_rfl) (of_decide_eq_true (by kernel_rfl)) k0 bel lt0) (trodAll_cons_mk (Below.trod laidOut (by kernel_rfl) (of_decide_eq_true (by kernel_rfl)) k1 bel lt1) trodAll_mk0)), rfl, bel.frame _, fun h => by cases h⟩

theorem proved : Rows.StoreRunsUptoSaid :=
  OpenClaim.holds_of_cond 3 Tryz.f3 rfl rfl rfl rfl rfl rfl rfl ⟨rfl, rfl, rfl, rfl, rfl⟩ rfl rfl rfl rfl rfl (by kernel_rfl) Tryz.func3 (by kernel_rfl)
    (of_decide_eq_true (by kernel_rfl)) (by unfold Func.isWrapper; first | (rw [if_pos (by decide +kernel)]; kernel_rfl) | (rw [if_neg (by decide +kernel)]; exact ⟨rfl, rfl⟩))
    (fun os started H enc _ F => lifted os started H enc F)
#print axioms proved
end Go.Proofs.YtekmjhenhgmpgaaGreat.storeRuns
