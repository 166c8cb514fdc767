/- The anchor of the store's statements holds. -/
import Derived.Test.YtekmjhenhgmpgaaBegun8
namespace Go.Proofs.Ytekmjhenhgmpgaa
open Go.RowKit
set_option maxRecDepth 100000

theorem ints_nil8 (w : World) : IntsIn w none [] := ⟨by simp, by simp [maxLen], fun i hi => by simp at hi⟩
set_option maxHeartbeats 2000000 in
theorem begun8_ok (w : World) :
    Calls Try.prog 8 #[] w fun e w' => e = .returned (.bool true) ∧ Only NoBlock w w' := by
  go_enter Try.func8, Try.ntmps8
  go_wp2_with fail
  refine (new_ok w 1000 (by omega) (by omega)).mono ?_
  rintro e w1 ⟨rfl, hd1, ho1, hs1⟩
  clear hs1
  obtain ⟨d, hd⟩ : ∃ d, w.heap.size + 1 = d := ⟨_, rfl⟩
  obtain ⟨mb, hm⟩ : ∃ mb, w.heap.size = mb := ⟨_, rfl⟩
  have hdb : w.heap.size ≤ d := by omega
  have hmb : w.heap.size ≤ mb := by omega
  rw [hd, hm] at hd1
  rw [hd]
  clear hd hm
  have HX : RowKit.Hid (∀ k, (k = d ∨ k = mb) → ¬ k < w.heap.size) := Lib.hid (by rintro k (rfl | rfl) <;> omega)
  go_wp2_with fail
  refine (sopen_ok hd1 (by decide) (by omega) Bg8.e1 (M' := Bg8.N1) rfl Bg8.r1).mono ?_
  rintro e w2 ⟨t, g, ao, cap, rfl, ht, hlog, hst, -, -, -, hd2, ho2⟩
  have hO2 : Only NoBlock w w2 := ho1.andThen ho2 (fun i hi e => HX.out i e hi)
  have hz1 := ho1.size
  have hst2 := hst.lower (b' := w.heap.size) hz1
  clear ho1 ho2 hst
  simp only [stCells, Bg8.s0, List.length_nil]
  go_upto_region 3 with fail
  have hA2 := (Only.refl NoBlock w2).alloc (Obj.cells #[.int .u64 0, .int .i64 (-1), .int .u64 0, .int .u64 0, .int .u64 7, .string ByteArray.empty, .slice ao 0 cap] 42)
  have hb2 := Blk.made w2 #[.int .u64 0, .int .i64 (-1), .int .u64 0, .int .u64 0, .int .u64 7, .string ByteArray.empty, .slice ao 0 cap] 42
  generalize hP : w2.heap.size = P at hb2 ⊢
  generalize w2.alloc (Obj.cells #[.int .u64 0, .int .i64 (-1), .int .u64 0, .int .u64 0, .int .u64 7, .string ByteArray.empty, .slice ao 0 cap] 42) = w3 at hA2 hb2 ⊢
  have hO3 := hO2.trans hA2
  have hd3 := hd2.keeps hA2 (fun h => h) (fun h => h)
  have hl3 : LogAt w3 g d 0 := Blk.keeps hlog hA2 (fun h => h)
  have hst3 := hst2.keeps hA2 (fun h => h) (fun _ _ h => h)
  have hPb : w.heap.size ≤ P := by have := hO2.size; omega
  have hdt := hst3.apart hb2 (by decide)
  have hPd : d ≠ P := by have := hd2.blk.lt; omega
  have hPm : mb ≠ P := by have := hd2.files.lt; omega
  clear hA2 hO2 hd2 hlog hst2 hP
  go_wp2_with fail
  have hal := (Only.refl NoBlock w3).alloc (Obj.cells #[Value.int .u64 3, .int .u64 1, .int .i64 0, .string ByteArray.empty] 77)
  have hz3 := hO3.size
  refine (save_as (h := Bg8.hd) Bg8.hdwf (hd3.keeps hal (fun h => h) (fun h => h)) (by decide) (Blk.keeps hl3 hal (fun h => h)) (hst3.keeps hal (fun h => h) (fun _ _ h => h)) (by simp; omega) (ents_one w3 Bg8.en Bg8.enwf _) rfl (by decide) (by decide) (by decide) Bg8.z2 Bg8.e2 (M' := Bg8.N2) rfl rfl).mono ?_
  rintro e w4 ⟨rfl, hd4, hst4, ho4⟩
  have hO4 : Only NoBlock w w4 := (hO3.trans hal).andThen ho4 (fun i hi e => e.elim (fun e => HX.out i (.inl e) hi) (fun e => e.elim (fun e => HX.out i (.inr e) hi) (fun e => by omega)))
  have hb4 := (hb2.keeps hal (fun h => h)).keeps ho4 (by rintro (e | e | e) <;> omega)
  clear hO3 hal hd3 hl3 hst3 hb2 hst4 ho4
  go_wp2_with fail
  refine (crash_as hd4 (ints_nil8 _) rfl (M' := Bg8.N3) rfl).mono ?_
  rintro e w5 ⟨rfl, hd5, ho5⟩
  have z4 := hO4.size
  have hO5 := hO4.trans ho5
  have hb5 := hb4.keeps ho5 (fun h => h)
  have hP4 := hb4.lt
  go_wp2_with fail
  refine (sopen_ok hd5 (by decide) (by omega) Bg8.e3 (M' := Bg8.N4) rfl Bg8.r3).mono ?_
  rintro e w6 ⟨t6, g6, ao6, cap6, rfl, -, -, -, -, -, -, -, ho6⟩
  have hO6 : Only NoBlock w w6 := hO5.andThen ho6 (by rintro i hi (e | e) <;> omega)
  have hb6 := hb5.keeps ho6 (by rintro (e | e) <;> omega)
  simp only [stCells, Bg8.s1, Bg8.en, List.length_singleton]
  clear hb4 hb5 hO4 hO5 ho5 ho6
  go_upto_region 5 with fail
  have hA6 := (Only.refl NoBlock w6).alloc (Obj.cells #[.int .u64 3, .int .i64 1, .int .u64 0, .int .u64 0, .int .u64 7, .string ByteArray.empty, .slice ao6 1 cap6] 42)
  have hb7 := Blk.made w6 #[.int .u64 3, .int .i64 1, .int .u64 0, .int .u64 0, .int .u64 7, .string ByteArray.empty, .slice ao6 1 cap6] 42
  have hb7' := hb6.keeps hA6 (fun h => h)
  have hO7 := hO6.trans hA6
  generalize w6.heap.size = P2 at hb7 ⊢
  generalize w6.alloc (Obj.cells #[.int .u64 3, .int .i64 1, .int .u64 0, .int .u64 0, .int .u64 7, .string ByteArray.empty, .slice ao6 1 cap6] 42) = w7 at hA6 hb7 hb7' hO7 ⊢
  have x1 : w7.cell? ⟨P, 1, none⟩ = some (.int .i64 (-1)) := by rw [hb7'.cell]; rfl
  have y0 : w7.cell? ⟨P2, 0, none⟩ = some (.int .u64 3) := by rw [hb7.cell]; rfl
  have y1 : w7.cell? ⟨P2, 1, none⟩ = some (.int .i64 1) := by rw [hb7.cell]; rfl
  have y6 : w7.cell? ⟨P2, 6, none⟩ = some (.slice ao6 1 cap6) := by rw [hb7.cell]; rfl
  go_wp2_with fail
  go_ret
  exact ⟨rfl, hO7⟩
end Go.Proofs.Ytekmjhenhgmpgaa
