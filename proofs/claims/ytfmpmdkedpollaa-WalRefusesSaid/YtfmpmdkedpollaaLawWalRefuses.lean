/- What is no record is refused, and nothing is written; so is a file that is none, and a log that is none: the walk of the law. -/
import Derived.Test.YtfmpmdkedpollaaBegun5
import Derived.Test.YtfmpmdkedpollaaOpenFull
import Derived.Deep.CutBlock
namespace Go.Proofs.Ytfmpmdkedpollaa
open Go.RowKit

namespace Wr
def A1 : ByteArray := ⟨#[97]⟩
theorem appE_long {M : DM} {n : Int} {l : List ByteArray} (h : Wal.long l = true) : Wal.appE M n l = 3 := by unfold Wal.appE; rw [if_pos h]
theorem app_long {M : DM} {n : Int} {l : List ByteArray} (h : Wal.long l = true) : Wal.app M n l = M := by unfold Wal.app; rw [if_pos h]
theorem anewE_long {M : DM} {n : Int} {l : List ByteArray} (h : Wal.long l = true) : Wal.anewE M n l = 3 := by unfold Wal.anewE; rw [if_pos h]
theorem anew_long {M : DM} {n : Int} {l : List ByteArray} (h : Wal.long l = true) : Wal.anew M n l = M := by unfold Wal.anew; rw [if_pos h]
theorem appendE_not3 (M : DM) (n : Int) (s : ByteArray) : M.appendE n s ≠ 3 := by unfold DM.appendE; repeat' split
                                                                                  all_goals decide
theorem syncE_not3 (M : DM) (n : Int) : M.syncE n ≠ 3 := by unfold DM.syncE; repeat' split
                                                            all_goals decide
theorem replaceE_not3 (M : DM) (n : Int) (s : ByteArray) : M.replaceE n s ≠ 3 := by unfold DM.replaceE; repeat' split
                                                                                    all_goals decide
theorem appE_not3 {M : DM} {n : Int} {l : List ByteArray} (h : Wal.long l = false) : Wal.appE M n l ≠ 3 := by
  unfold Wal.appE
  rw [h, if_neg (by decide)]
  split
  · exact syncE_not3 _ _
  · exact appendE_not3 _ _ _
theorem anewE_not3 {M : DM} {n : Int} {l : List ByteArray} (h : Wal.long l = false) : Wal.anewE M n l ≠ 3 := by
  unfold Wal.anewE
  rw [h, if_neg (by decide)]
  exact replaceE_not3 _ _ _
theorem strs_two (w : World) (x y : ByteArray) (t : TypeId) : StrsIn (w.alloc (.cells #[.string x, .string y] t)) (some ⟨w.heap.size, 0, none⟩) [x, y] := by
  refine ⟨by simp [maxLen], fun i hi => ⟨w.heap.size, 0, rfl, ?_⟩⟩
  rw [Nat.zero_add, (Blk.made w _ _).cell]
  have : i = 0 ∨ i = 1 := by simp at hi; omega
  rcases this with rfl | rfl <;> rfl
def Z (k : Nat) : ByteArray := textOf (List.replicate k 0)
theorem Z_size (k : Nat) : (Z k).size = k := by unfold Z; rw [textOf_size, List.length_replicate]
theorem A1_size : A1.size = 1 := rfl
theorem long2 (k : Nat) : Wal.long [A1, Z k] = decide (65536 < k) := by simp [Wal.long, Z_size, A1_size]
theorem long1 (k : Nat) : Wal.long [Z k] = decide (65536 < k) := by simp [Wal.long, Z_size]
theorem text2 (k : Nat) (h : k ≤ 1000000) : (Wal.text [A1, Z k]).size ≤ 1000000000 := by
  have := text_total [A1, Z k]
  have e : total [A1, Z k] = 1 + k := by simp [total, Z_size, A1_size]
  rw [e] at this
  simp only [List.length_cons, List.length_nil] at this
  omega
theorem text1 (k : Nat) (h : k ≤ 1000000) : (Wal.text [Z k]).size ≤ 1000000000 := by
  have := text_total [Z k]
  have e : total [Z k] = k := by simp [total, Z_size]
  rw [e] at this
  simp only [List.length_cons, List.length_nil] at this
  omega
end Wr

set_option maxRecDepth 100000 in
set_option maxHeartbeats 4000000 in
theorem walk_WalRefuses {w : World} (a0 : Int) (w0 : (Lit.int .i64 a0).wf = true) (a1 : Int) (_w1 : (Lit.int .i64 a1).wf = true) :
    Calls Try.prog 7 #[.int .i64 a0, .int .i64 a1] w fun e w' => e = .returned (.bool true) ∧ Below w.heap.size w w' := by
  obtain ⟨f, hf, ef⟩ := norm_mod a1 4 (by omega) (by omega)
  have ef' : (wrap64 (a1.tmod 4 + 4)).tmod 4 = (f : Int) := ef
  have HE := Lib.hid ef'
  clear ef'
  clear ef _w1
  go_enter Try.func7, Try.ntmps7
  go_wp2_with fail
  refine (begun5_ok w).mono ?_
  rintro e w1 ⟨rfl, ho1⟩
  go_wp2_with fail
  refine (new_ok w1 1048576 (by omega) (by omega)).mono ?_
  rintro e w2 ⟨rfl, hd2, ho2, hs2⟩
  clear hs2
  have z1 := ho1.size
  obtain ⟨d, hd⟩ : ∃ d, w1.heap.size + 1 = d := ⟨_, rfl⟩
  obtain ⟨mb, hm⟩ : ∃ mb, w1.heap.size = mb := ⟨_, rfl⟩
  have hdb : w.heap.size ≤ d := by omega
  have hmb : w.heap.size ≤ mb := by omega
  rw [hd, hm] at hd2
  rw [hd]
  clear hd hm
  have HX : RowKit.Hid (∀ k, k < w.heap.size → (k = d ∨ k = mb) → NoBlock k) := Lib.hid (by rintro k hk (rfl | rfl) <;> omega)
  have hO2 := ho1.trans ho2
  clear ho1 ho2 z1
  have hF0 := Full.new
  obtain ⟨M0, hM0⟩ : ∃ M0, DM.new 1048576 = M0 := ⟨_, rfl⟩
  rw [hM0] at hd2 hF0
  clear hM0
  go_wp2_with fail
  refine (open_at w2 d mb M0 a0 hd2 w0).mono ?_
  rintro e w3 ⟨p, v, rfl, hd3, ho3, -⟩
  have hO3 : Only NoBlock w w3 := hO2.andThen ho3 HX.out
  have hdec : (a0 < 0 ∨ 16 ≤ a0) ∧ Wal.openE M0 a0 = 1 ∧ Full (Wal.openM M0 a0) ∨ (¬ a0 < 0 ∧ ¬ 16 ≤ a0) ∧ Wal.openE M0 a0 = 0 ∧ Full (Wal.openM M0 a0) := by
    by_cases hr : a0 < 0 ∨ 16 ≤ a0
    · exact .inl ⟨hr, by unfold Wal.openE; rw [if_pos hr], by unfold Wal.openM; rw [if_pos hr]; exact hF0⟩
    · obtain ⟨q1, q2, q3⟩ := hF0.open (n := a0) (by omega) (by omega)
      exact .inr ⟨⟨by omega, by omega⟩, q1, hd3.ok, q2, q3⟩
  generalize Wal.openM M0 a0 = M1 at hd3 hdec
  generalize Wal.openE M0 a0 = e1 at hdec
  clear hF0 hd2 ho3 hO2
  have h3 : (a0 < 0 ∧ e1 = 1 ∧ Full M1) ∨ (¬ a0 < 0 ∧ 16 ≤ a0 ∧ e1 = 1 ∧ Full M1) ∨ (¬ a0 < 0 ∧ ¬ 16 ≤ a0 ∧ e1 = 0 ∧ Full M1) := by
    rcases hdec with ⟨hr, h1, h2⟩ | ⟨⟨h1, h2⟩, h3, h4⟩
    · by_cases hneg : a0 < 0
      · exact .inl ⟨hneg, h1, h2⟩
      · exact .inr (.inl ⟨hneg, by omega, h1, h2⟩)
    · exact .inr (.inr ⟨h1, h2, h3, h4⟩)
  clear hdec
  rcases h3 with ⟨q1, rfl, hF⟩ | ⟨q1, q2, rfl, hF⟩ | ⟨q1, q2, rfl, hF⟩
  all_goals
    go_wp2_with fail
    obtain ⟨p1, p2, p3⟩ := hF.open (n := 1) (by decide) (by decide)
    refine (open_ok hd3 (by decide) p1 (M' := Wal.openM M1 1) rfl (l := Wal.openL M1 1) rfl).mono ?_
    rintro e w4 ⟨g, ao, cap, rfl, hg, hlog, -, -, hd4, ho4⟩
    have hO4 := hO3.andThen ho4 HX.out
    clear hO3 ho4 hd3 p1 p2 p3
    generalize Wal.openM M1 1 = M2 at hd4
    go_upto_region 9 with (fail)
    rw [HE.out]
    clear hg hF
    go_wp2_with (first
      | (at_make; refine wpList_make_bytes _ rfl _ _ rfl w.heap.size .i64 .i64 _ _ (65535 + f) rfl rfl ?_ ?_ ?_ ?_ ?_; (simp); (simp); omega; (exact hO4.size); intro w5 hb5 hg5)
      | (refine wpList_conv_text _ rfl _ _ rfl Cv.u_string Cv.u_byte _ _ _ (List.replicate (65535 + f) 0) rfl rfl (Bts.read hb5 (by intro x hx; have := List.eq_of_mem_replicate hx; omega)) ?_))
    have hO5 : Only NoBlock w w5 := hO4.grown hg5 (fun k hk => by cases hk)
    have hd5 := hd4.keeps ((Only.refl NoBlock w4).grown hg5 (fun k hk => by cases hk)) (fun h => h) (fun h => h)
    have hlog5 := Blk.keeps hlog ((Only.refl NoBlock w4).grown hg5 (fun k hk => by cases hk)) (fun h => h)
    rw [show textOf (List.replicate (65535 + f) 0) = Wr.Z (65535 + f) from rfl]
    clear hO4 hd4 hlog hb5 hg5
    refine (used_as hd5 rfl).mono ?_
    rintro e w6 ⟨rfl, hd6, ho6⟩
    have hO6 := hO5.trans ho6
    have hlog6 := Blk.keeps hlog5 ho6 (fun h => h)
    clear hO5 hd5 hlog5 ho6
    go_wp2_with fail
    have hal6 := (Only.refl NoBlock w6).alloc (Obj.cells #[Value.string { data := #[97] }, Value.string (Wr.Z (65535 + f))] 9)
    by_cases hbig : 1 < f
    · have hx1 : Wal.long [Wr.A1, Wr.Z (65535 + f)] = true := by rw [Wr.long2]; simp; omega
      have hx2 : Wal.long [Wr.Z (65535 + f)] = true := by rw [Wr.long1]; simp; omega
      refine (log_append_as (hd6.keeps hal6 (fun h => h) (fun h => h)) (Blk.keeps hlog6 hal6 (fun h => h)) (by decide) (Wr.strs_two w6 Wr.A1 (Wr.Z (65535 + f)) _) rfl (Wr.text2 _ (by omega)) (Wr.appE_long hx1) (Wr.app_long hx1)).mono ?_
      rintro e w7 ⟨rfl, hd7, ho7⟩
      have hO7 := (hO6.alloc _).andThen ho7 HX.out
      obtain ⟨hgd, hgm⟩ := LogAt.apart hlog6 hd6
      have hlog7 := Blk.keeps (Blk.keeps hlog6 hal6 (fun h => h)) ho7 (fun e => e.elim hgd hgm)
      clear hO6 ho7 hal6 hlog6 hd6
      go_wp2_with fail
      have hal7 := (Only.refl NoBlock w7).alloc (Obj.cells #[Value.string (Wr.Z (65535 + f))] 9)
      refine (log_anew_as (hd7.keeps hal7 (fun h => h) (fun h => h)) (Blk.keeps hlog7 hal7 (fun h => h)) (by decide) (strs_one w7 (Wr.Z (65535 + f)) _) rfl (Wr.text1 _ (by omega)) (Wr.anewE_long hx2) (Wr.anew_long hx2)).mono ?_
      rintro e w8 ⟨rfl, hd8, ho8⟩
      have hO8 := (hO7.alloc _).andThen ho8 HX.out
      clear hO7 ho8 hal7 hlog7 hd7 hx1 hx2 hgd hgm
      go_wp2_with fail
      refine (used_as hd8 rfl).mono ?_
      rintro e w9 ⟨rfl, hd9, ho9⟩
      have hO9 := hO8.trans ho9
      clear hO8 ho9 hd8 hd9
      go_wp2_with fail
      refine (opened_nil w9 1).mono ?_
      rintro e w10 ⟨rfl, ho10⟩
      have hO10 := hO9.trans ho10
      rw [if_neg (by decide)]
      go_wp2_with fail
      refine (log_append_nil _ _).mono ?_
      rintro e w11 ⟨rfl, rfl⟩
      go_wp2_with fail
      refine (log_anew_nil _ _).mono ?_
      rintro e w12 ⟨rfl, rfl⟩
      go_wp2_with fail
      go_ret
      exact ⟨rfl, (hO10.alloc _).below (Nat.le_refl _) (fun _ h => h.elim)⟩
    · have hx1 : Wal.long [Wr.A1, Wr.Z (65535 + f)] = false := by rw [Wr.long2]; simp; omega
      have hx2 : Wal.long [Wr.Z (65535 + f)] = false := by rw [Wr.long1]; simp; omega
      have hn1 := Wr.appE_not3 (M := M2) (n := 1) hx1
      obtain ⟨x, hx⟩ : ∃ x, Wal.appE M2 1 [Wr.A1, Wr.Z (65535 + f)] = x := ⟨_, rfl⟩
      obtain ⟨M3, hM3⟩ : ∃ M3, Wal.app M2 1 [Wr.A1, Wr.Z (65535 + f)] = M3 := ⟨_, rfl⟩
      have hn2 := Wr.anewE_not3 (M := M3) (n := 1) hx2
      obtain ⟨y, hy⟩ : ∃ y, Wal.anewE M3 1 [Wr.Z (65535 + f)] = y := ⟨_, rfl⟩
      rw [hx] at hn1
      rw [hy] at hn2
      have hb1 : (x == 3) = false := by simpa using hn1
      have hb2 : (y == 3) = false := by simpa using hn2
      have HXM := Lib.hid (And.intro hx hM3)
      have HY := Lib.hid hy
      clear hn1 hn2 hx hM3 hy hx1 hx2
      refine (log_append_as (hd6.keeps hal6 (fun h => h) (fun h => h)) (Blk.keeps hlog6 hal6 (fun h => h)) (by decide) (Wr.strs_two w6 Wr.A1 (Wr.Z (65535 + f)) _) rfl (Wr.text2 _ (by omega)) HXM.out.1 HXM.out.2).mono ?_
      rintro e w7 ⟨rfl, hd7, ho7⟩
      have hO7 := (hO6.alloc _).andThen ho7 HX.out
      obtain ⟨hgd, hgm⟩ := LogAt.apart hlog6 hd6
      have hlog7 := Blk.keeps (Blk.keeps hlog6 hal6 (fun h => h)) ho7 (fun e => e.elim hgd hgm)
      clear hO6 ho7 hal6 hlog6 hd6
      go_wp2_with fail
      have hal7 := (Only.refl NoBlock w7).alloc (Obj.cells #[Value.string (Wr.Z (65535 + f))] 9)
      refine (log_anew_as (hd7.keeps hal7 (fun h => h) (fun h => h)) (Blk.keeps hlog7 hal7 (fun h => h)) (by decide) (strs_one w7 (Wr.Z (65535 + f)) _) rfl (Wr.text1 _ (by omega)) HY.out rfl).mono ?_
      rintro e w8 ⟨rfl, hd8, ho8⟩
      have hO8 := (hO7.alloc _).andThen ho8 HX.out
      clear hO7 ho8 hal7 hlog7 hd7 hgd hgm hd8
      go_wp2_with fail
      refine (opened_nil w8 1).mono ?_
      rintro e w10 ⟨rfl, ho10⟩
      have hO10 := hO8.trans ho10
      rw [if_neg (by decide)]
      go_wp2_with fail
      refine (log_append_nil _ _).mono ?_
      rintro e w11 ⟨rfl, rfl⟩
      go_wp2_with fail
      refine (log_anew_nil _ _).mono ?_
      rintro e w12 ⟨rfl, rfl⟩
      go_wp2_with fail
      go_ret
      exact ⟨rfl, (hO10.alloc _).below (Nat.le_refl _) (fun _ h => h.elim)⟩

end Go.Proofs.Ytfmpmdkedpollaa
