/- A log is opened and written, on a disk that may go off, as the document has it, byte by byte: the walk of the law. -/
import Derived.Test.YtfmpmdkedpollaaLawWalLasts
import Derived.Test.YtfmpmdkedpollaaRlog5
namespace Go.Proofs.Ytfmpmdkedpollaa
open Go.RowKit

namespace Wr5
theorem ne1 {w : World} {d mb r : Nat} {M N : DM} (h : DiskAt w d mb M) (k : RefAt w r N) : r ≠ d := by
  intro e
  obtain ⟨_, cs, fi, so, th, hb, _⟩ := k
  have h1 := h.blk
  unfold Blk at hb h1
  rw [e, h1] at hb
  cases hb
theorem ne2 {w : World} {d mb r : Nat} {M N : DM} (h : DiskAt w d mb M) (k : RefAt w r N) : r ≠ mb := by
  intro e
  obtain ⟨_, cs, fi, so, th, hb, _⟩ := k
  obtain ⟨D, ⟨es, clock, h1, _⟩, _⟩ := h.files
  unfold Blk at hb
  rw [e, h1] at hb
  cases hb
theorem fueled {w : World} {r : Nat} {M : DM} (h : RefAt w r M) (n : Int) (h0 : -1 ≤ n) (h1 : n ≤ 9223372036854775807) : RefAt (w.setCell ⟨r, 49, none⟩ (.int .i64 n)) r { M with fuel := n } := by
  obtain ⟨hk, cs, fi, so, th, hb, hc, hs⟩ := h
  exact ⟨hk.with rfl rfl h0 h1, _, fi, so, th, hb.setCell 49 _, hc.setFuel n, hs⟩
theorem ints_three (w : World) (x : Int) (hx : (Lit.int .i64 x).wf = true) (t : TypeId) : IntsIn (w.alloc (.cells #[.int .i64 0, .int .i64 0, .int .i64 x] t)) (some ⟨w.heap.size, 0, none⟩) [0, 0, x] := by
  refine ⟨?_, by simp [maxLen], fun i hi => ⟨w.heap.size, 0, rfl, ?_⟩⟩
  · intro y hy
    simp at hy
    rcases hy with rfl | rfl
    · decide
    · exact hx
  · rw [Nat.zero_add, (Blk.made w _ _).cell]
    have : i = 0 ∨ i = 1 ∨ i = 2 := by simp at hi; omega
    rcases this with rfl | rfl | rfl <;> rfl
/-- both disks and both logs, the same plain disk -/
structure Logs (w : World) (d mb r g q : Nat) (M : DM) : Prop where
  disk : DiskAt w d mb M
  ref : RefAt w r M
  log : LogAt w g d 2
  rlog : RLogAt w q r 2
theorem Logs.after {w w1 : World} {d mb r g q : Nat} {M M' : DM} (h : Logs w d mb r g q M) (hd : DiskAt w1 d mb M') (ho : Only (fun k => k = d ∨ k = mb) w w1) : RefAt w1 r M ∧ LogAt w1 g d 2 ∧ RLogAt w1 q r 2 := by
  obtain ⟨a1, a2⟩ := h.log.apart h.disk
  have b1 := ne1 h.disk h.ref
  have b2 := ne2 h.disk h.ref
  refine ⟨h.ref.keeps ho (fun e => e.elim b1 b2), Blk.keeps h.log ho (fun e => e.elim a1 a2), Blk.keeps h.rlog ho ?_⟩
  intro e
  have hb := h.rlog
  unfold RLogAt Blk at hb
  rcases e with e | e
  · have h1 := h.disk.blk
    unfold Blk at h1
    rw [e, h1] at hb
    cases hb
  · obtain ⟨D, ⟨es, clock, h1, _⟩, _⟩ := h.disk.files
    rw [e, h1] at hb
    cases hb
theorem Logs.then {w w1 : World} {d mb r g q : Nat} {M M' : DM} (hd : DiskAt w d mb M') (hr : RefAt w r M) (hl : LogAt w g d 2) (hq : RLogAt w q r 2) (hr' : RefAt w1 r M') (ho : Only (fun k => k = r) w w1) : Logs w1 d mb r g q M' := by
  have b1 := ne1 hd hr
  have b2 := ne2 hd hr
  refine ⟨hd.keeps ho (fun e => b1 e.symm) (fun e => b2 e.symm), hr', Blk.keeps hl ho ?_, Blk.keeps hq ho (hq.apart hr)⟩
  intro e
  obtain ⟨_, cs, fi, so, th, hb, _⟩ := hr
  unfold LogAt Blk at hl
  unfold Blk at hb
  rw [← e, hl] at hb
  cases hb
end Wr5

set_option maxRecDepth 100000 in
set_option maxHeartbeats 4000000 in
theorem walk_WalRuns {w : World} (s : ByteArray) (hs : s.size ≤ maxLen) (a1 : Int × Int) (w1 : (Lit.int .i64 a1.1).wf = true ∧ (Lit.int .i64 a1.2).wf = true) (a2 : List RowT × Option Addr × Nat) (w2 : RowsIn w a2.2.1 a2.1) :
    Calls Try.prog 8 #[.string s, .agg #[.int .i64 a1.1, .int .i64 a1.2], .slice a2.2.1 a2.1.length a2.2.2] w fun e w' => e = .returned (.bool true) ∧ Below w.heap.size w w' := by
  obtain ⟨fuel, keep⟩ := a1
  obtain ⟨L, ao, ac⟩ := a2
  have hin := w2
  obtain ⟨hwf, hwk⟩ := w1
  clear w2
  simp only at hin hwf hwk ⊢
  obtain ⟨hf0, hf1⟩ := bounds_i64 hwf
  have hLm := hin.len
  unfold maxLen at hLm hs
  go_enter Try.func8, Try.ntmps8
  go_wp2_with fail
  go_quiet (fail)
  go_wp2_with fail
  have hOa := ((Only.refl NoBlock w).alloc (Obj.cells #[Value.int .i64 fuel, Value.int .i64 keep] 49)).drewN nq
  refine (begun5_ok _).mono ?_
  rintro e w1 ⟨rfl, ho1⟩
  have hO1 := hOa.trans ho1
  clear hOa ho1
  go_wp2_with fail
  go_loop [9, 34] (fun v7 i => ∃ k : Nat, k ≤ L.length ∧ i = .int .i64 k ∧ v7 = .int .i64 (Wl.cnt L k) ∧ Wl.cnt L k ≤ 100 ∧ RowKit.Hid (Wl.Ok L k)) (fun _ i => L.length - (intOf i).toNat)
  case atStart => exact ⟨0, by omega, rfl, rfl, by simp [Wl.cnt], Lib.hid ⟨fun i hi => by omega, by simp [Wl.cnt]⟩⟩
  case round =>
    obtain ⟨k, hk, rfl, rfl, hc100, HOk⟩ := hrel
    by_cases hlt : k < L.length
    · have hin1 := hin.keeps hO1
      obtain ⟨b, off, rfl, hcell⟩ := hin1.cell k hlt
      have htx := hin1.texts k hlt
      have hcs := Wl.cnt_succ hlt
      have hfew := htx.few
      have HC := Lib.hid hcs
      clear hcs hin1
      have hrow : (L.getD k ([], none, 0)).1 = Wl.row L k := rfl
      rw [hrow] at hcell htx hfew
      clear hrow
      generalize (L.getD k ([], none, 0)).2.1 = ak at hcell htx
      generalize (L.getD k ([], none, 0)).2.2 = ck at hcell
      go_wp2_with fail
      refine (small_at w1 ak ck (Wl.row L k) htx).mono ?_
      rintro e w1x ⟨sb, rfl, rfl, HB⟩
      cases sb with
      | false =>
        go_wp2_with fail
        go_ret
        exact ⟨rfl, hO1.below (Nat.le_refl _) (fun _ h => h.elim)⟩
      | true =>
        have hsm := HB.out (by simp)
        have hs2 := hsm.2
        have HS := Lib.hid hsm
        clear hsm HB
        by_cases hbig : 100 < Wl.cnt L k + ((Wl.row L k).length + 1)
        · go_wp2_with fail
          go_ret
          exact ⟨rfl, hO1.below (Nat.le_refl _) (fun _ h => h.elim)⟩
        · go_wp2_with fail
          go_round
          case rel =>
            refine ⟨k + 1, by omega, by go_num, by rw [HC.out]; go_num, by rw [HC.out]; omega, Lib.hid ⟨?_, by rw [HC.out]; omega⟩⟩
            intro i hi
            rcases Nat.lt_or_ge i k with h2 | h2
            · exact HOk.out.1 i h2
            · obtain rfl : i = k := by omega
              exact HS.out
          case measure => simp [intOf]; omega
    · obtain rfl : k = L.length := by omega
      clear hc100 hlt hk
      by_cases hbig : 20000 < s.size
      · have hdb : decide ((20000 : Int) < (s.size : Int)) = true := by simp; omega
        clear hbig
        go_wp2_with fail
        go_ret
        exact ⟨rfl, hO1.below (Nat.le_refl _) (fun _ h => h.elim)⟩
      have hdb : decide ((20000 : Int) < (s.size : Int)) = false := by simp; omega
      have hs2 : s.size ≤ 20000 := by omega
      clear hbig hs
      go_wp2_with fail
      refine (new_ok w1 30000 (by omega) (by omega)).mono ?_
      rintro e w2 ⟨rfl, hd2, ho2, hs2'⟩
      clear hs2'
      have z1 := hO1.size
      have z2 := ho2.size
      obtain ⟨d, hd⟩ : ∃ d, w1.heap.size + 1 = d := ⟨_, rfl⟩
      obtain ⟨mb, hm⟩ : ∃ mb, w1.heap.size = mb := ⟨_, rfl⟩
      have hdb1 : w.heap.size ≤ d := by omega
      have hmb : w.heap.size ≤ mb := by omega
      rw [hd, hm] at hd2
      rw [hd]
      clear hd hm
      have hO2 := hO1.trans ho2
      clear hO1 ho2
      go_wp2_with fail
      refine (rnew_ok w2 30000 (by omega) (by omega)).mono ?_
      rintro e w3 ⟨rfl, hr3, ho3⟩
      have hd3 := hd2.keeps ho3 (fun h => h) (fun h => h)
      have hO3 := hO2.trans ho3
      obtain ⟨r, hr⟩ : ∃ r, w2.heap.size = r := ⟨_, rfl⟩
      have hrb : w.heap.size ≤ r := by omega
      rw [hr] at hr3
      rw [hr]
      clear hr hd2 ho3 hO2 z1 z2
      have hne1 := Wr5.ne1 hd3 hr3
      have hne2 := Wr5.ne2 hd3 hr3
      have HX : RowKit.Hid (∀ k, k < w.heap.size → (k = d ∨ k = mb) → NoBlock k) := Lib.hid (by rintro k hk (rfl | rfl) <;> omega)
      have HY : RowKit.Hid (∀ k, k < w.heap.size → (k = r) → NoBlock k) := Lib.hid (by rintro k hk rfl; omega)
      obtain ⟨M0, hM0⟩ : ∃ M0, DM.new 30000 = M0 := ⟨_, rfl⟩
      rw [hM0] at hd3 hr3
      clear hM0
      go_wp2_with fail
      refine (replace_as hd3 (by decide) (by omega) rfl rfl).mono ?_
      rintro e w4 ⟨rfl, hd4, ho4⟩
      have hr4 := hr3.keeps ho4 (fun e => e.elim hne1 hne2)
      have hO4 := hO3.andThen ho4 HX.out
      clear hd3 hr3 ho4 hO3
      go_wp2_with fail
      refine (R5.rrep_as hr4 (by omega) rfl rfl).mono ?_
      rintro e w5 ⟨rfl, hr5, ho5⟩
      have hd5 := hd4.keeps ho5 (fun e => hne1 e.symm) (fun e => hne2 e.symm)
      have hO5 := hO4.andThen ho5 HY.out
      clear hd4 hr4 ho5 hO4
      generalize M0.replace 2 s = M1 at hd5 hr5
      go_wp2_with fail
      refine (fuel_at w5 d mb _ fuel (by omega) hd5).mono ?_
      rintro e w6 ⟨rfl, hd6, ho6⟩
      have hr6 := hr5.keeps ho6 (fun e => e.elim hne1 hne2)
      have hO6 := hO5.andThen ho6 HX.out
      clear hd5 hr5 ho6 hO5
      have c2 := hr6.cFuel
      have f2 := hr6.free 49
      go_upto_region 20 with fail
      obtain ⟨F, hF⟩ : ∃ F, (if fuel < -1 then (-1 : Int) else fuel) = F := ⟨_, rfl⟩
      rw [hF]
      have hMF : M1.setFuel fuel = { M1 with fuel := F } := by rw [← hF]; rfl
      have hFb : -1 ≤ F ∧ F ≤ 9223372036854775807 := by rw [← hF]; split <;> omega
      rw [hMF] at hd6
      have hq : Only (fun k => k = r) w6 (w6.setCell ⟨r, 49, none⟩ (.int .i64 F)) := Only.one (S := fun k => k = r) rfl _
      have hr7 := Wr5.fueled hr6 F hFb.1 hFb.2
      have hd7 := hd6.keeps hq (fun e => hne1 e.symm) (fun e => hne2 e.symm)
      have hO7 := hO6.andThen hq HY.out
      clear hd6 hr6 hq hO6 c2 f2 hMF hF hFb
      generalize w6.setCell ⟨r, 49, none⟩ (.int .i64 F) = w7 at hd7 hr7 hO7 ⊢
      generalize ({ M1 with fuel := F } : DM) = M2 at hd7 hr7
      go_wp2_with fail
      refine (open_at w7 d mb M2 2 hd7 (by decide)).mono ?_
      rintro e w8 ⟨p, v, rfl, hd8, ho8, hcase⟩
      have hr8 := hr7.keeps ho8 (fun e => e.elim hne1 hne2)
      have hO8 := hO7.andThen ho8 HX.out
      have z7 := hO7.size
      have hr7l := hr7.lt
      clear hd7 hr7
      go_wp2_with fail
      refine (ropen_at w8 r M2 2 hr8).mono ?_
      rintro e w9 ⟨p', v', rfl, hr9, ho9, hcase'⟩
      have hd9 := hd8.keeps ho9 (fun e => hne1 e.symm) (fun e => hne2 e.symm)
      have hO9 := hO8.andThen ho9 HY.out
      generalize hE : Wal.openE M2 2 = E at hcase hcase' ⊢
      generalize Wal.openM M2 2 = M3 at hd9 hr9
      generalize Wal.openL M2 2 = T at hcase hcase'
      clear hE
      rcases hcase with ⟨rfl, g, rfl, hg8, hl8, hv8⟩ | ⟨hE0, rfl, rfl⟩
      · rcases hcase' with ⟨_, q, rfl, hq9, hl9, hv9⟩ | ⟨hbad, _, _⟩
        · have hl9' : LogAt w9 g d 2 := by
            refine Blk.keeps hl8 ho9 ?_
            intro e
            omega
          have HL9 : Wr5.Logs w9 d mb r g q M3 := ⟨hd9, hr9, hl9', hl9⟩
          obtain ⟨ao8, cap8, rfl, hs8, _⟩ := hv8.isIn
          obtain ⟨ao9, cap9, rfl, hs9, _⟩ := hv9.isIn
          have hs8' : StrsIn w9 ao8 T := hs8.keeps ho9 (by
            intro a e hr
            subst e
            have h8 : w7.heap.size ≤ a.block := (World.ownsRow.lt hv8 _ rfl).1
            omega)
          have hin9 := hin.keeps hO9
          have HIN := Lib.hid hin9
          clear hv8 hv9 hs8 hl9' hl9 hd9 hr9 hr8 hd8 hl8 hin9
          go_wp2_with fail
          refine (same_as hs8' hs9 rfl rfl (b := true) (by simp)).mono ?_
          rintro e w10 ⟨rfl, nn, rfl⟩
          clear hs8' hs9
          go_wp2_with fail
          have HL10 : Wr5.Logs (w9.drewN nn) d mb r g q M3 := ⟨HL9.disk.keeps ((Only.refl NoBlock _).drewN _) (fun h => h) (fun h => h), HL9.ref.keeps ((Only.refl NoBlock _).drewN _) (fun h => h), HL9.log, HL9.rlog⟩
          have hO10 := hO9.drewN nn
          have hin10 := Lib.hid hin
          clear HL9 HIN hin
          have hw2 : (Lit.int .i64 2).wf = true := by decide
          generalize w9.drewN nn = w10 at HL10 hO10 ⊢
          go_loopw [103] (fun v103 wr => ∃ (k : Nat) (M : DM), k ≤ L.length ∧ v103 = .int .i64 k ∧ Wr5.Logs wr d mb r g q M ∧ Only NoBlock w wr) (fun v103 _ => L.length - (intOf v103).toNat)
          case atStart => exact ⟨0, M3, by omega, rfl, HL10, hO10⟩
          case round =>
            obtain ⟨k, M, hk, rfl, HL, hO⟩ := hrel
            clear HL10
            by_cases hlt : k < L.length
            · have hin1 := hin10.out.keeps hO
              obtain ⟨b, off, rfl, hcell⟩ := hin1.cell k hlt
              have htx : ∀ W, Only NoBlock w W → StrsIn W (L.getD k ([], none, 0)).2.1 (L.getD k ([], none, 0)).1 := fun W h => ((hin10.out.keeps h).texts k hlt).row
              have hsm := HOk.out.1 k hlt
              have htz := Wa.small_text hsm
              have hrow : (L.getD k ([], none, 0)).1 = Wl.row L k := rfl
              rw [hrow] at hcell htx
              clear hrow hsm hin1
              generalize (L.getD k ([], none, 0)).2.1 = ak at hcell htx
              generalize (L.getD k ([], none, 0)).2.2 = ck at hcell
              generalize Wl.row L k = R at hcell htx htz
              by_cases h3 : k % 3 = 2
              · have hb3 : ((k : Int) % 3 == 2) = true := by simp; omega
                clear h3
                go_wp2_with fail
                refine (log_anew_as HL.disk HL.log hw2 (htx _ hO) rfl (by omega) rfl rfl).mono ?_
                rintro e w11 ⟨rfl, hd11, ho11⟩
                obtain ⟨r11, l11, q11⟩ := HL.after hd11 ho11
                have hO11 := hO.andThen ho11 HX.out
                go_wp2_with fail
                refine (rlog_anew_at w11 q r M 2 ak ck R r11 q11 (htx _ hO11) (by omega)).mono ?_
                rintro e w12 ⟨rfl, hr12, ho12⟩
                have HL12 : Wr5.Logs w12 d mb r g q (Wal.anew M 2 R) := Wr5.Logs.then hd11 r11 l11 q11 hr12 ho12
                have hO12 := hO11.andThen ho12 HY.out
                go_wp2_with fail
                go_roundw
                case rel => exact ⟨k + 1, _, by omega, by go_num, HL12, hO12⟩
                case measure => simp [intOf]; omega
              · have hb3 : ((k : Int) % 3 == 2) = false := by simp; omega
                clear h3
                go_wp2_with fail
                refine (log_append_as HL.disk HL.log hw2 (htx _ hO) rfl (by omega) rfl rfl).mono ?_
                rintro e w11 ⟨rfl, hd11, ho11⟩
                obtain ⟨r11, l11, q11⟩ := HL.after hd11 ho11
                have hO11 := hO.andThen ho11 HX.out
                go_wp2_with fail
                refine (rlog_append_at w11 q r M 2 ak ck R r11 q11 (htx _ hO11) (by omega)).mono ?_
                rintro e w12 ⟨rfl, hr12, ho12⟩
                have HL12 : Wr5.Logs w12 d mb r g q (Wal.app M 2 R) := Wr5.Logs.then hd11 r11 l11 q11 hr12 ho12
                have hO12 := hO11.andThen ho12 HY.out
                go_wp2_with fail
                go_roundw
                case rel => exact ⟨k + 1, _, by omega, by go_num, HL12, hO12⟩
                case measure => simp [intOf]; omega
            · obtain rfl : k = L.length := by omega
              obtain ⟨hd, hr, -, -⟩ := HL
              clear hlt hk
              go_wp2_with fail
              have hali : ∀ W, Only NoBlock W (W.alloc (Obj.cells #[Value.int .i64 0, Value.int .i64 0, Value.int .i64 keep] 3)) := fun W => (Only.refl NoBlock W).alloc _
              have hne1 := Wr5.ne1 hd hr
              have hne2 := Wr5.ne2 hd hr
              refine (crash_as (hd.keeps (hali wr) (fun h => h) (fun h => h)) (Wr5.ints_three wr keep hwk 3) rfl rfl).mono ?_
              rintro e w11 ⟨rfl, hd11, ho11⟩
              have hr11 := hr.keeps ((hali wr).trans ho11) (fun h => h)
              have hO11 := hO.trans ((hali wr).trans ho11)
              clear ho11 hd hr
              generalize (wr.alloc (Obj.cells #[Value.int .i64 0, Value.int .i64 0, Value.int .i64 keep] 3)).heap.size = c at hd11 ⊢
              go_wp2_with fail
              refine (read_as' hd11 hw2 rfl rfl).mono ?_
              rintro e w12 ⟨rfl, ho12⟩
              have hr12 := hr11.keeps ho12 (fun h => h)
              have hO12 := hO11.trans ho12
              clear ho12 hd11 hr11 hO11
              go_wp2_with fail
              refine (rcrash_at _ r M _ 3 [0, 0, keep] (hr12.keeps (hali w12) (fun h => h)) (Wr5.ints_three w12 keep hwk 3)).mono ?_
              rintro e w13 ⟨rfl, hr13, ho13⟩
              have hO13 := hO12.trans ((hali w12).trans ho13)
              clear ho13 hr12 hO12
              generalize (w12.alloc (Obj.cells #[Value.int .i64 0, Value.int .i64 0, Value.int .i64 keep] 3)).heap.size = c2 at hr13 ⊢
              go_wp2_with fail
              refine (R5.rread_as hr13 rfl rfl).mono ?_
              rintro e w14 ⟨rfl, ho14⟩
              have hO14 := hO13.trans ho14
              clear hr13 hO13 ho14
              generalize (M.crash (keepOf [0, 0, keep])).read 2 = t
              generalize (M.crash (keepOf [0, 0, keep])).readE 2 = k
              go_wp2_with fail
              go_ret
              exact ⟨by simp, hO14.below (Nat.le_refl _) (fun _ h => h.elim)⟩
        · exact absurd rfl hbad
      · rcases hcase' with ⟨hbad, _⟩ | ⟨_, rfl, rfl⟩
        · exact absurd hbad hE0
        · have hEb : (E != 0) = true := by simpa using hE0
          clear hE0
          go_wp2_with fail
          refine (same_as (StrsIn.none _) (StrsIn.none _) rfl rfl (b := true) (by simp)).mono ?_
          rintro e w10 ⟨rfl, nn, rfl⟩
          go_wp2_with fail
          go_ret
          exact ⟨rfl, (hO9.drewN nn).below (Nat.le_refl _) (fun _ h => h.elim)⟩

end Go.Proofs.Ytfmpmdkedpollaa
