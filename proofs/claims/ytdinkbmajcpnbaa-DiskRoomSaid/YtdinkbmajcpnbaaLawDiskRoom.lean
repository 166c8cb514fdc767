/- A disk takes as many bytes as it has room for, and not one more; what is replaced or removed makes room: the walk of the law. -/
import Derived.Test.YtdinkbmajcpnbaaBegun4
import Derived.Test.YtdinkbmajcpnbaaTwo
import Derived.Test.YtdinkbmajcpnbaaShelf4
import Derived.Test.YtdinkbmajcpnbaaBoth4
namespace Go.Proofs.Ytdinkbmajcpnbaa
open Go.RowKit

theorem rep_as {w : World} {s : ByteArray} (hs : s.size = 1) {x : Int} {c : Nat} (hx : x = (c : Int)) (hc : c ≤ 1000000) :
    Calls Try.prog 29 #[.string s, .int .i64 x] w fun e w' => ∃ t, e = .returned (.string t) ∧ t.size = c ∧ Only NoBlock w w' := by
  subst hx
  refine (Try.strings_Repeat s c w (by omega) (by rw [hs]; omega)).mono ?_
  rintro e w' ⟨rfl, hb⟩
  refine ⟨_, rfl, ?_, Only.of_below hb⟩
  show (Lib.repeatL s.data.toList c).toArray.size = c
  rw [List.size_toArray, Lib.repeatL_length]
  have : s.data.toList.length = 1 := by simpa using hs
  rw [this, Nat.mul_one]

namespace Two
theorem app3 {R : Int} {a b : Option File} {s : ByteArray} (h : (fsz a + fsz b + s.size : Nat) ≤ R) : (two R a b).appendE 3 s = 0 ∧ ∃ f, (two R a b).append 3 s = two R (some f) b ∧ fsz (some f) = fsz a + s.size := by
  obtain ⟨h1, h2⟩ := append3 h
  refine ⟨h1, _, h2, ?_⟩
  cases a with
  | none => simp [fsz, noFile]
  | some f => simp [fsz]; omega
theorem app4 {R : Int} {a b : Option File} {s : ByteArray} (h : (fsz a + fsz b + s.size : Nat) ≤ R) : (two R a b).appendE 4 s = 0 ∧ ∃ f, (two R a b).append 4 s = two R a (some f) ∧ fsz (some f) = fsz b + s.size := by
  obtain ⟨h1, h2⟩ := append4 h
  refine ⟨h1, _, h2, ?_⟩
  cases b with
  | none => simp [fsz, noFile]
  | some f => simp [fsz]; omega
theorem rep3 {R : Int} {a b : Option File} {s : ByteArray} (h : (fsz b + s.size : Nat) ≤ R) : (two R a b).replaceE 3 s = 0 ∧ ∃ f, (two R a b).replace 3 s = two R (some f) b ∧ fsz (some f) = s.size := by
  obtain ⟨h1, h2⟩ := replace3 h
  exact ⟨h1, _, h2, by simp [fsz]⟩
end Two

set_option maxRecDepth 100000 in
set_option maxHeartbeats 2000000 in
theorem walk_DiskRoom {w : World} (a0 : Int) (_w0 : (Lit.int .i64 a0).wf = true) (a1 : Int) (_w1 : (Lit.int .i64 a1).wf = true) :
    Calls Try.prog 8 #[.int .i64 a0, .int .i64 a1] w fun e w' => e = .returned (.bool true) ∧ Below w.heap.size w w' := by
  obtain ⟨R, hR, eR⟩ := norm_mod a0 500 (by decide) (by decide)
  obtain ⟨n, hn, en⟩ := norm_mod a1 600 (by decide) (by decide)
  replace eR : (wrap64 (a0.tmod 500 + 500)).tmod 500 = (R : Int) := eR
  replace en : (wrap64 (a1.tmod 600 + 600)).tmod 600 = (n : Int) := en
  go_enter Try.func8, Try.ntmps8
  go_wp2_with fail
  refine (begun_ok w).mono ?_
  rintro e w1 ⟨rfl, hO1⟩
  go_wp2_with fail
  clear eR en
  refine (new_ok w1 R (by omega) (by omega)).mono ?_
  rintro e w2 ⟨rfl, hd2, ho2, hs2⟩
  clear hs2
  have z1 := hO1.size
  obtain ⟨d, hd⟩ : ∃ d, w1.heap.size + 1 = d := ⟨_, rfl⟩
  obtain ⟨mb, hm⟩ : ∃ mb, w1.heap.size = mb := ⟨_, rfl⟩
  have hdb : w.heap.size ≤ d := by omega
  have hmb : w.heap.size ≤ mb := by omega
  rw [hd, hm, Two.new] at hd2
  rw [hd]
  clear hd hm
  have HX : RowKit.Hid (∀ k, k < w.heap.size → (k = d ∨ k = mb) → NoBlock k) := Lib.hid (by rintro k hk (rfl | rfl) <;> omega)
  have hO2 := hO1.trans ho2
  clear hO1 ho2 z1
  have hw4 : (Lit.int .i64 4).wf = true := by decide
  have hw3 : (Lit.int .i64 3).wf = true := by decide
  go_wp2_with fail
  refine (rep_as (c := n) rfl rfl (by omega)).mono ?_
  rintro e w3 ⟨t1, rfl, ht1, ho3⟩
  have hd3 := hd2.keeps ho3 (fun h => h) (fun h => h)
  have hO3 := hO2.trans ho3
  clear hd2 hO2 ho3
  by_cases hfit : R < n
  · have hf := Two.append_full (R := R) (a := none) (b := none) (s := t1) (n := 3) (.inl rfl) (by simp [fsz]; omega)
    have HF := Lib.hid hf
    clear hf
    go_wp2_with fail
    refine (append_as hd3 (by omega) HF.out.1 HF.out.2).mono ?_
    rintro e w4 ⟨rfl, hd4, ho4⟩
    have hO4 := hO3.andThen ho4 HX.out
    clear hd3 hO3 ho4
    go_wp2_with fail
    refine (used_at w4 d mb _ hd4).mono ?_
    rintro e w5 ⟨rfl, hd5, ho5⟩
    have hO5 := hO4.trans ho5
    have hu : (two (R : Int) none none).used = 0 := by rw [Two.used]; rfl
    rw [hu]
    clear hd4 hO4 ho5 hu
    go_wp2_with fail
    refine (files_at w5 d mb _ hd5).mono ?_
    rintro e w6 ⟨v, rfl, hv, hd6, ho6⟩
    have hO6 := hO5.trans ho6
    obtain ⟨ao, cap, rfl⟩ := Ints.shape hv
    have hl : ((two (R : Int) none none).files.list 16).length = 0 := by rfl
    rw [hl]
    go_wp2_with fail
    go_ret
    exact ⟨rfl, hO6.below (Nat.le_refl _) (fun _ h => h.elim)⟩
  · obtain ⟨m, hm⟩ : ∃ m, R = n + m := ⟨R - n, by omega⟩
    subst hm
    clear hfit
    obtain ⟨hE, f1, hM, hz1⟩ := Two.app3 (R := ((n + m : Nat) : Int)) (a := none) (b := none) (s := t1) (by simp [fsz]; omega)
    rw [ht1] at hz1
    have hz1' : fsz (some f1) = n := by rw [hz1]; simp [fsz]
    have HE := Lib.hid hE
    have HM := Lib.hid hM
    have HZ1 := Lib.hid hz1'
    clear hE hM hz1 hz1'
    go_wp2_with fail
    refine (append_as hd3 (by omega) HE.out HM.out).mono ?_
    rintro e w4 ⟨rfl, hd4, ho4⟩
    have hO4 := hO3.andThen ho4 HX.out
    clear hd3 hO3 ho4 HE HM
    go_wp2_with fail
    refine (rep_as (x := (n : Int) + m - n + 1) (c := m + 1) rfl (by omega) (by omega)).mono ?_
    rintro e w5 ⟨t5, rfl, ht5, ho5⟩
    have hd5 := hd4.keeps ho5 (fun h => h) (fun h => h)
    have hO5 := hO4.trans ho5
    clear hd4 hO4 ho5
    have HF := Lib.hid (Two.append_full (R := ((n + m : Nat) : Int)) (a := some f1) (b := none) (s := t5) (n := 4) (.inr rfl) (by rw [HZ1.out, ht5]; simp [fsz]; omega))
    go_wp2_with fail
    refine (append_as hd5 (by omega) HF.out.1 HF.out.2).mono ?_
    rintro e w6 ⟨rfl, hd6, ho6⟩
    have hO6 := hO5.andThen ho6 HX.out
    clear hd5 hO5 ho6
    go_wp2_with fail
    refine (rep_as (x := (n : Int) + m - n) (c := m) rfl (by omega) (by omega)).mono ?_
    rintro e w7 ⟨t7, rfl, ht7, ho7⟩
    have hd7 := hd6.keeps ho7 (fun h => h) (fun h => h)
    have hO7 := hO6.trans ho7
    clear hd6 hO6 ho7
    obtain ⟨hE, f2, hM, hz2⟩ := Two.app4 (R := ((n + m : Nat) : Int)) (a := some f1) (b := none) (s := t7) (by rw [HZ1.out, ht7]; simp [fsz])
    rw [ht7] at hz2
    have hz2' : fsz (some f2) = m := by rw [hz2]; simp [fsz]
    have HE := Lib.hid hE
    have HM := Lib.hid hM
    have HZ2 := Lib.hid hz2'
    clear hE hM hz2 hz2' HF
    go_wp2_with fail
    refine (append_as hd7 (by omega) HE.out HM.out).mono ?_
    rintro e w8 ⟨rfl, hd8, ho8⟩
    have hO8 := hO7.andThen ho8 HX.out
    clear hd7 hO7 ho8
    clear HE HM
    go_wp2_with fail
    refine (rep_as (x := (n : Int) + 1) (c := n + 1) rfl (by omega) (by omega)).mono ?_
    rintro e w9 ⟨t9, rfl, ht9, ho9⟩
    have hd9 := hd8.keeps ho9 (fun h => h) (fun h => h)
    have hO9 := hO8.trans ho9
    clear hd8 hO8 ho9
    have HF := Lib.hid (Two.replace3_full (R := ((n + m : Nat) : Int)) (a := some f1) (b := some f2) (s := t9) (by rw [HZ2.out, ht9]; omega))
    go_wp2_with fail
    refine (replace_as hd9 hw3 (by omega) HF.out.1 HF.out.2).mono ?_
    rintro e w10 ⟨rfl, hd10, ho10⟩
    have hO10 := hO9.andThen ho10 HX.out
    clear hd9 hO9 ho10
    go_wp2_with fail
    refine (rep_as (x := (n : Int)) (c := n) rfl (by omega) (by omega)).mono ?_
    rintro e w11 ⟨t11, rfl, ht11, ho11⟩
    have hd11 := hd10.keeps ho11 (fun h => h) (fun h => h)
    have hO11 := hO10.trans ho11
    clear hd10 hO10 ho11
    obtain ⟨hE, f3, hM, hz3⟩ := Two.rep3 (R := ((n + m : Nat) : Int)) (a := some f1) (b := some f2) (s := t11) (by rw [HZ2.out, ht11]; omega)
    rw [ht11] at hz3
    have HE := Lib.hid hE
    have HM := Lib.hid hM
    have HZ3 := Lib.hid hz3
    clear hE hM hz3 HF
    go_wp2_with fail
    refine (replace_as hd11 hw3 (by omega) HE.out HM.out).mono ?_
    rintro e w12 ⟨rfl, hd12, ho12⟩
    have hO12 := hO11.andThen ho12 HX.out
    clear hd11 hO11 ho12
    clear HE HM
    have hu : (two ((n + m : Nat) : Int) (some f3) (some f2)).used = n + m := by rw [Two.used, HZ3.out, HZ2.out]
    have HU := Lib.hid hu
    clear hu
    go_wp2_with fail
    refine (used_at w12 d mb _ hd12).mono ?_
    rintro e w13 ⟨rfl, hd13, ho13⟩
    have hO13 := hO12.trans ho13
    rw [HU.out]
    clear hd12 hO12 ho13 HU
    have HF := Lib.hid (Two.remove4 (R := ((n + m : Nat) : Int)) (a := some f3) (f := f2))
    go_wp2_with fail
    refine (remove_as hd13 hw4 HF.out.1 HF.out.2).mono ?_
    rintro e w14 ⟨rfl, hd14, ho14⟩
    have hO14 := hO13.andThen ho14 HX.out
    clear hd13 hO13 ho14
    have hu : (two ((n + m : Nat) : Int) (some f3) none).used = n := by rw [Two.used, HZ3.out]; rfl
    have HU := Lib.hid hu
    clear hu HF
    go_wp2_with fail
    refine (used_at w14 d mb _ hd14).mono ?_
    rintro e w15 ⟨rfl, hd15, ho15⟩
    have hO15 := hO14.trans ho15
    rw [HU.out]
    clear hd14 hO14 ho15 HU
    go_wp2_with fail
    refine (rep_as (x := ((n + m : Nat) : Int)) (c := n + m) rfl (by omega) (by omega)).mono ?_
    rintro e w16 ⟨t16, rfl, ht16, ho16⟩
    have hd16 := hd15.keeps ho16 (fun h => h) (fun h => h)
    have hO16 := hO15.trans ho16
    clear hd15 hO15 ho16
    obtain ⟨hE, f4, hM, -⟩ := Two.rep3 (R := ((n + m : Nat) : Int)) (a := some f3) (b := none) (s := t16) (by rw [ht16]; simp [fsz])
    have HE := Lib.hid hE
    have HM := Lib.hid hM
    clear hE hM
    go_wp2_with fail
    refine (replace_as hd16 hw3 (by omega) HE.out HM.out).mono ?_
    rintro e w17 ⟨rfl, hd17, ho17⟩
    have hO17 := hO16.andThen ho17 HX.out
    clear hd16 hO16 ho17
    go_wp2_with fail
    go_ret
    exact ⟨rfl, hO17.below (Nat.le_refl _) (fun _ h => h.elim)⟩

end Go.Proofs.Ytdinkbmajcpnbaa
