/- A log that is laid anew is the elder one or the new one, wholly, wherever the disk goes off: the walk of the law. -/
import Derived.Test.YtfmpmdkedpollaaLawWalBack
import Derived.Test.YtfmpmdkedpollaaOpenT2
import Derived.Test.YtfmpmdkedpollaaOne
namespace Go.Proofs.Ytfmpmdkedpollaa
open Go.RowKit

namespace Wa
theorem left_firm (A : ByteArray) (k : Int) : leftFile (A, ByteArray.empty) k = some (A, ByteArray.empty) := by
  have e0 : ByteArray.empty.size = 0 := rfl
  unfold leftFile
  simp only [e0]
  rw [if_neg (by simp)]
  have : (max 0 (min k ((0 : Nat) : Int))).toNat = 0 := by omega
  rw [this]
  have e1 : ByteArray.empty.extract 0 0 = ByteArray.empty := rfl
  rw [e1, ByteArray.append_empty]
theorem recs_text {l : List ByteArray} (h : ∀ i, i < l.length → (l.getD i ByteArray.empty).size ≤ 65536) : Wal.recs (Wal.text l) = l := by
  unfold Wal.recs
  rw [Wb.scan_all h]
  exact Wb.map_nums l
theorem small_65 {l : List ByteArray} (h : small l) : ∀ i, i < l.length → (l.getD i ByteArray.empty).size ≤ 65536 := fun i hi => by have := Wb.small_each h i hi; omega
theorem small_long {l : List ByteArray} (h : small l) : Wal.long l = false := Wal.long_none (small_65 h)
theorem small_text {l : List ByteArray} (h : small l) : (Wal.text l).size ≤ 41600 := by
  have h1 := text_total l
  obtain ⟨h2, h3⟩ := h
  omega
theorem open_text {l : List ByteArray} (h : small l) :
    Wal.openE (one 0 (some (Wal.text l, ByteArray.empty)) (-1) false) 0 = 0 ∧ Wal.openL (one 0 (some (Wal.text l, ByteArray.empty)) (-1) false) 0 = l := by
  have hs := small_text h
  have e0 : ByteArray.empty.size = 0 := rfl
  obtain ⟨h1, h2, h3⟩ := One.open_some (n := 0) (by decide) (by decide) (A := Wal.text l) (B := ByteArray.empty) (by omega)
  rw [ByteArray.append_empty, recs_text (small_65 h)] at h3
  exact ⟨h1, h3⟩
theorem first_app {l : List ByteArray} (h : small l) :
    Wal.appE (one 0 (some (ByteArray.empty, ByteArray.empty)) (-1) false) 0 l = 0 ∧ Wal.app (one 0 (some (ByteArray.empty, ByteArray.empty)) (-1) false) 0 l = one 0 (some (Wal.text l, ByteArray.empty)) (-1) false := by
  have hs := small_text h
  have e0 : ByteArray.empty.size = 0 := rfl
  obtain ⟨h1, h2⟩ := One.app_go (n := 0) (by decide) (by decide) (A := ByteArray.empty) (B := ByteArray.empty) (l := l) (F := -1) (small_long h) (by decide) (by decide) (by omega)
  rw [ByteArray.empty_append, ByteArray.empty_append] at h2
  exact ⟨h1, h2⟩
end Wa

set_option maxRecDepth 100000 in
set_option maxHeartbeats 4000000 in
theorem walk_WalAnew {w : World} (a0 : List ByteArray × Option Addr × Nat) (w0 : TextsIn w a0.2.1 a0.1 ∧ a0.1.length ≤ a0.2.2 ∧ a0.2.2 ≤ maxLen) (a1 : List ByteArray × Option Addr × Nat) (w1 : TextsIn w a1.2.1 a1.1 ∧ a1.1.length ≤ a1.2.2 ∧ a1.2.2 ≤ maxLen)
    (a2 : Int × Int) (w2 : (Lit.int .i64 a2.1).wf = true ∧ (Lit.int .i64 a2.2).wf = true) :
    Calls Try.prog 9 #[.slice a0.2.1 a0.1.length a0.2.2, .slice a1.2.1 a1.1.length a1.2.2, .agg #[.int .i64 a2.1, .int .i64 a2.2]] w fun e w' => e = .returned (.bool true) ∧ Below w.heap.size w w' := by
  obtain ⟨a, ao, ac⟩ := a0
  obtain ⟨b, bo, bc⟩ := a1
  obtain ⟨fuel, keep⟩ := a2
  obtain ⟨hina, _, _⟩ := w0
  obtain ⟨hinb, _, _⟩ := w1
  obtain ⟨hwf, hwk⟩ := w2
  simp only at hina hinb hwf hwk ⊢
  obtain ⟨hf0, hf1⟩ := bounds_i64 hwf
  go_enter Try.func9, Try.ntmps9
  go_wp2_with fail
  go_quiet (fail)
  go_wp2_with fail
  have hOa := ((Only.refl NoBlock w).alloc (Obj.cells #[Value.int .i64 fuel, Value.int .i64 keep] 49)).drewN nq
  refine (begun5_ok _).mono ?_
  rintro e w1 ⟨rfl, ho1⟩
  have hO1 := hOa.trans ho1
  clear hOa ho1
  go_wp2_with fail
  refine (small_at w1 ao ac a (hina.keeps hO1 (fun _ _ h => h))).mono ?_
  rintro e w1x ⟨sa, rfl, rfl, HA⟩
  cases sa with
  | false =>
    go_wp2_with fail
    go_ret
    exact ⟨rfl, hO1.below (Nat.le_refl _) (fun _ h => h.elim)⟩
  | true =>
  go_wp2_with fail
  refine (small_at w1 bo bc b (hinb.keeps hO1 (fun _ _ h => h))).mono ?_
  rintro e w1x ⟨sb, rfl, rfl, HB⟩
  cases sb with
  | false =>
    go_wp2_with fail
    go_ret
    exact ⟨rfl, hO1.below (Nat.le_refl _) (fun _ h => h.elim)⟩
  | true =>
  have hsa := HA.out (by simp)
  have hsb := HB.out (by simp)
  clear HA HB
  have HSA := Lib.hid hsa
  have HSB := Lib.hid hsb
  clear hsa hsb
  go_wp2_with fail
  refine (new_ok w1 1048576 (by omega) (by omega)).mono ?_
  rintro e w2 ⟨rfl, hd2, ho2, hs2⟩
  clear hs2
  have z1 := hO1.size
  obtain ⟨d, hd⟩ : ∃ d, w1.heap.size + 1 = d := ⟨_, rfl⟩
  obtain ⟨mb, hm⟩ : ∃ mb, w1.heap.size = mb := ⟨_, rfl⟩
  have hdb : w.heap.size ≤ d := by omega
  have hmb : w.heap.size ≤ mb := by omega
  rw [hd, hm, One.new 0] at hd2
  rw [hd]
  clear hd hm
  have HX : RowKit.Hid (∀ k, k < w.heap.size → (k = d ∨ k = mb) → NoBlock k) := Lib.hid (by rintro k hk (rfl | rfl) <;> omega)
  have hO2 := hO1.trans ho2
  clear hO1 ho2 z1
  go_wp2_with fail
  refine (open_ok hd2 (by decide) (One.open_none (n := 0) (by decide) (by decide)).1 (One.open_none (n := 0) (by decide) (by decide)).2.1 (One.open_none (n := 0) (by decide) (by decide)).2.2).mono ?_
  rintro e w3 ⟨g, ao3, cap3, rfl, hg3, hlog3, -, -, hd3, ho3⟩
  have hO3 := hO2.andThen ho3 HX.out
  clear hO2 ho3 hd2
  go_wp2_with fail
  refine (log_append_as hd3 hlog3 (by decide) (hina.row.keeps hO3 (fun _ _ h => h)) rfl (by have := Wa.small_text HSA.out; omega) (Wa.first_app HSA.out).1 (Wa.first_app HSA.out).2).mono ?_
  rintro e w4 ⟨rfl, hd4, ho4⟩
  have hO4 := hO3.andThen ho4 HX.out
  obtain ⟨hgd, hgm⟩ := LogAt.apart hlog3 hd3
  have hlog4 := Blk.keeps hlog3 ho4 (fun e => e.elim hgd hgm)
  clear hO3 ho4 hlog3 hd3 hg3
  go_wp2_with fail
  refine (fuel_at w4 d mb _ fuel (by omega) hd4).mono ?_
  rintro e w5 ⟨rfl, hd5, ho5⟩
  have hO5 := hO4.andThen ho5 HX.out
  have hlog5 := Blk.keeps hlog4 ho5 (fun e => e.elim hgd hgm)
  rw [One.setFuel] at hd5
  clear hO4 ho5 hlog4 hd4
  have hb5 := hinb.row.keeps hO5 (fun _ _ h => h)
  go_wp2_with fail
  have htb : (Wal.text b).size ≤ 41600 := Wa.small_text HSB.out
  by_cases hz : fuel = 0
  · subst hz
    rw [show (if (0 : Int) < -1 then (-1 : Int) else 0) = 0 from rfl] at hd5
    have han := One.anew_dry (n := 0) (by decide) (by decide) (o := some (Wal.text a, ByteArray.empty)) (l := b) (Wa.small_long HSB.out) (by omega)
    refine (log_anew_as hd5 hlog5 (by decide) hb5 rfl (by omega) han.1 han.2).mono ?_
    rintro e w6 ⟨rfl, hd6, ho6⟩
    have hO6 := hO5.andThen ho6 HX.out
    clear hO5 ho6 hlog5 hd5 han hb5
    go_wp2_with fail
    have hal6 := (Only.refl NoBlock w6).alloc (Obj.cells #[Value.int .i64 keep] 3)
    refine (crash_as (hd6.keeps hal6 (fun h => h) (fun h => h)) (ints_one w6 keep hwk _) rfl (M' := one 0 (some (Wal.text a, ByteArray.empty)) (-1) false) (by rw [One.crash]; simp only; rw [Wa.left_firm])).mono ?_
    rintro e w7 ⟨rfl, hd7, ho7⟩
    have hO7 := (hO6.alloc _).trans ho7
    have hz6 := hO6.size
    simp only [World.size_alloc] at hd7
    clear hO6 ho7 hd6 hal6
    go_wp2_with fail
    obtain ⟨hE, hL⟩ := Wa.open_text HSA.out
    refine (open_ok hd7 (by decide) hE rfl hL).mono ?_
    rintro e w8 ⟨g8, ao8, cap8, rfl, -, -, hs8, -, hd8, ho8⟩
    have hO8 : Only NoBlock w w8 := hO7.andThen ho8 (by rintro i hi (e | e) <;> omega)
    clear hE hL hd7 hO7 ho8 hd8
    go_wp2_with fail
    refine (same_as hs8 (hina.row.keeps hO8 (fun _ _ h => h)) rfl rfl (b := true) (by simp)).mono ?_
    rintro e w9 ⟨rfl, q, rfl⟩
    go_wp2_with fail
    go_ret
    exact ⟨rfl, (hO8.drewN q).below (Nat.le_refl _) (fun _ h => h.elim)⟩
  · have hF : (if fuel < -1 then (-1 : Int) else fuel) ≠ 0 := by split <;> omega
    have han := One.anew_go (n := 0) (by decide) (by decide) (o := some (Wal.text a, ByteArray.empty)) (l := b) (Wa.small_long HSB.out) hF (by omega)
    have HN := Lib.hid han
    clear hF han hz
    refine (log_anew_as hd5 hlog5 (by decide) hb5 rfl (by omega) HN.out.1 HN.out.2).mono ?_
    rintro e w6 ⟨rfl, hd6, ho6⟩
    have hO6 := hO5.andThen ho6 HX.out
    clear hO5 ho6 hlog5 hd5 hb5
    go_wp2_with fail
    have hal6 := (Only.refl NoBlock w6).alloc (Obj.cells #[Value.int .i64 keep] 3)
    refine (crash_as (hd6.keeps hal6 (fun h => h) (fun h => h)) (ints_one w6 keep hwk _) rfl (M' := one 0 (some (Wal.text b, ByteArray.empty)) (-1) false) (by rw [One.crash]; simp only; rw [Wa.left_firm])).mono ?_
    rintro e w7 ⟨rfl, hd7, ho7⟩
    have hO7 := (hO6.alloc _).trans ho7
    have hz6 := hO6.size
    simp only [World.size_alloc] at hd7
    clear hO6 ho7 hd6 hal6
    go_wp2_with fail
    obtain ⟨hE, hL⟩ := Wa.open_text HSB.out
    refine (open_ok hd7 (by decide) hE rfl hL).mono ?_
    rintro e w8 ⟨g8, ao8, cap8, rfl, -, -, hs8, -, hd8, ho8⟩
    have hO8 : Only NoBlock w w8 := hO7.andThen ho8 (by rintro i hi (e | e) <;> omega)
    clear hE hL hd7 hO7 ho8 hd8
    go_wp2_with fail
    refine (same_as hs8 (hinb.row.keeps hO8 (fun _ _ h => h)) rfl rfl (b := true) (by simp)).mono ?_
    rintro e w9 ⟨rfl, q, rfl⟩
    go_wp2_with fail
    go_ret
    exact ⟨rfl, (hO8.drewN q).below (Nat.le_refl _) (fun _ h => h.elim)⟩

end Go.Proofs.Ytfmpmdkedpollaa
