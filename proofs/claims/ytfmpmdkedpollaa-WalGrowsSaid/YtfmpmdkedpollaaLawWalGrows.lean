/- A log that is opened, written and crashed again and again has all records that were answered, in order: the walk of the law. -/
import Derived.Test.YtfmpmdkedpollaaLawWalAnew
import Derived.Test.YtfmpmdkedpollaaOpenN
import Derived.Deep.LoopGhost
import Derived.Deep.CutBlock
namespace Go.Proofs.Ytfmpmdkedpollaa
open Go.RowKit

namespace Wg
def half : ByteArray := ⟨#[104, 97, 108, 102]⟩
/-- what lies in the file ahead of round i -/
def At (l : List ByteArray) (i : Nat) (o : Option File) : Prop := (i = 0 ∧ o = none) ∨ ∃ j, o = some (Wal.text (l.take i) ++ half.extract 0 j, ByteArray.empty)
theorem half_clear (j : Nat) : Wal.first (nums (half.extract 0 j)) = none := by
  have h : ∀ x ∈ nums (half.extract 0 j), x ≠ 0 := by
    intro x hx
    rw [nums_extract, List.drop_zero] at hx
    have h1 := List.mem_of_mem_take hx
    have h2 : nums half = [104, 97, 108, 102] := rfl
    rw [h2] at h1
    simp at h1
    omega
  unfold Wal.first
  rw [if_pos (Wal.zero_none h)]
theorem half_size (j : Nat) : (half.extract 0 j).size ≤ 4 := by
  have : half.size = 4 := rfl
  simp
  omega
theorem scan_half {l : List ByteArray} (h : ∀ i, i < l.length → (l.getD i ByteArray.empty).size ≤ 65536) (j : Nat) : Wal.scan (nums (Wal.text l ++ half.extract 0 j)) = (l.map nums, (Wal.text l).size) := by
  rw [nums_append, Wb.nums_text, Wal.scan_frames (Wb.recs_of h) (nums_byte _) (half_clear j), Wal.text_size]
theorem take_65 {l : List ByteArray} (h : small l) (k : Nat) : ∀ i, i < (l.take k).length → ((l.take k).getD i ByteArray.empty).size ≤ 65536 := by
  intro i hi
  rw [List.length_take] at hi
  have := Wa.small_65 h i (by omega)
  rw [List.getD_eq_getElem?_getD, List.getElem?_take, if_pos (by omega), ← List.getD_eq_getElem?_getD]
  exact this
theorem take_text {l : List ByteArray} (h : small l) (k : Nat) : (Wal.text (l.take k)).size ≤ 41600 := by
  have := Wal.text_take_le l k
  have := Wa.small_text h
  omega
theorem opens {l : List ByteArray} (h : small l) {i : Nat} {o : Option File} (ho : At l i o) :
    Wal.openE (one 4 o (-1) false) 4 = 0 ∧ Wal.openM (one 4 o (-1) false) 4 = one 4 (some (Wal.text (l.take i), ByteArray.empty)) (-1) false ∧ Wal.openL (one 4 o (-1) false) 4 = l.take i := by
  rcases ho with ⟨rfl, rfl⟩ | ⟨j, rfl⟩
  · exact One.open_none (n := 4) (by decide) (by decide)
  · have hs := take_text h i
    have hj := half_size j
    have e0 : ByteArray.empty.size = 0 := rfl
    obtain ⟨h1, h2, h3⟩ := One.open_some (n := 4) (by decide) (by decide) (A := Wal.text (l.take i) ++ half.extract 0 j) (B := ByteArray.empty) (by rw [ByteArray.size_append]; omega)
    have hsc := scan_half (take_65 h i) j
    rw [ByteArray.append_empty] at h2 h3
    have hw : Wal.whole (Wal.text (l.take i) ++ half.extract 0 j) = (Wal.text (l.take i)).size := by unfold Wal.whole; rw [hsc]
    have hx : (Wal.text (l.take i) ++ half.extract 0 j).extract 0 (Wal.text (l.take i)).size = Wal.text (l.take i) := by
      apply nums_inj
      rw [nums_extract, nums_append, List.drop_zero, Nat.sub_zero, ← nums_length, List.take_left]
    refine ⟨h1, by rw [h2, hw, hx], ?_⟩
    rw [h3]
    unfold Wal.recs
    rw [hsc]
    exact Wb.map_nums _
theorem apps {l : List ByteArray} (h : small l) {i : Nat} (hi : i < l.length) :
    Wal.appE (one 4 (some (Wal.text (l.take i), ByteArray.empty)) (-1) false) 4 [l.getD i ByteArray.empty] = 0 ∧ Wal.app (one 4 (some (Wal.text (l.take i), ByteArray.empty)) (-1) false) 4 [l.getD i ByteArray.empty] = one 4 (some (Wal.text (l.take (i + 1)), ByteArray.empty)) (-1) false := by
  have hs := take_text h i
  have e0 : ByteArray.empty.size = 0 := rfl
  have hl : Wal.long [l.getD i ByteArray.empty] = false := by
    have := Wa.small_65 h i hi
    unfold Wal.long
    rw [List.any_cons, List.any_nil, Bool.or_false]
    simpa using this
  have e1 : Wal.text (l.take (i + 1)) = Wal.text (l.take i) ++ Wal.text [l.getD i ByteArray.empty] := by rw [Wal.take_snoc hi, Wal.text_append]
  have hs2 := take_text h (i + 1)
  rw [e1, ByteArray.size_append] at hs2
  obtain ⟨h1, h2⟩ := One.app_go (n := 4) (by decide) (by decide) (A := Wal.text (l.take i)) (B := ByteArray.empty) (l := [l.getD i ByteArray.empty]) (F := -1) hl (by decide) (by decide) (by omega)
  rw [ByteArray.empty_append, ← e1] at h2
  exact ⟨h1, h2⟩
theorem halfs {l : List ByteArray} (h : small l) (i : Nat) :
    (one 4 (some (Wal.text (l.take i), ByteArray.empty)) (-1) false).append 4 half = one 4 (some (Wal.text (l.take i), half)) (-1) false := by
  have hs := take_text h i
  have e0 : ByteArray.empty.size = 0 := rfl
  have e4 : half.size = 4 := rfl
  obtain ⟨h1, h2⟩ := One.append_go (n := 4) (by decide) (by decide) (A := Wal.text (l.take i)) (B := ByteArray.empty) (s := half) (F := -1) (by decide) (by omega)
  rw [ByteArray.empty_append] at h2
  exact h2
theorem crashes {l : List ByteArray} {i : Nat} (hi : i < l.length) (k : Int) : ∃ o, At l (i + 1) o ∧ (one 4 (some (Wal.text (l.take (i + 1)), half)) (-1) false).crash (keepOf [0, 0, 0, 0, k]) = one 4 o (-1) false := by
  refine ⟨_, .inr ⟨(max 0 (min k (half.size : Int))).toNat, rfl⟩, ?_⟩
  rw [One.crash]
  simp only
  have hk : keepOf [0, 0, 0, 0, k] 4 = k := rfl
  have hne : (Wal.text (l.take (i + 1))).size ≠ 0 := by have := Wb.text_lt l hi; omega
  rw [hk]
  unfold leftFile
  simp only
  rw [if_neg (fun e => hne e.1)]
theorem ints_five (w : World) (x : Int) (hx : (Lit.int .i64 x).wf = true) (t : TypeId) : IntsIn (w.alloc (.cells #[.int .i64 0, .int .i64 0, .int .i64 0, .int .i64 0, .int .i64 x] t)) (some ⟨w.heap.size, 0, none⟩) [0, 0, 0, 0, x] := by
  refine ⟨?_, by simp [maxLen], fun i hi => ⟨w.heap.size, 0, rfl, ?_⟩⟩
  · intro y hy
    simp at hy
    rcases hy with rfl | rfl
    · decide
    · exact hx
  · rw [Nat.zero_add, (Blk.made w _ _).cell]
    have : i = 0 ∨ i = 1 ∨ i = 2 ∨ i = 3 ∨ i = 4 := by simp at hi; omega
    rcases this with rfl | rfl | rfl | rfl | rfl <;> rfl
theorem one_text (w : World) (x : ByteArray) (t : TypeId) : StrsIn (w.alloc (.cells #[.string x] t)) (some ⟨w.heap.size, 0, none⟩) [x] := strs_one w x t
theorem text_one {l : List ByteArray} (h : small l) {i : Nat} (hi : i < l.length) : (Wal.text [l.getD i ByteArray.empty]).size ≤ 1000000000 := by
  have e1 : Wal.text (l.take (i + 1)) = Wal.text (l.take i) ++ Wal.text [l.getD i ByteArray.empty] := by rw [Wal.take_snoc hi, Wal.text_append]
  have hs2 := take_text h (i + 1)
  rw [e1, ByteArray.size_append] at hs2
  omega
end Wg

set_option maxRecDepth 100000 in
set_option maxHeartbeats 4000000 in
theorem walk_WalGrows {w : World} (a0 : List ByteArray × Option Addr × Nat) (w0 : TextsIn w a0.2.1 a0.1 ∧ a0.1.length ≤ a0.2.2 ∧ a0.2.2 ≤ maxLen) (a1 : List Int × Option Addr × Nat) (w1 : IntsIn w a1.2.1 a1.1) :
    Calls Try.prog 5 #[.slice a0.2.1 a0.1.length a0.2.2, .slice a1.2.1 a1.1.length a1.2.2] w fun e w' => e = .returned (.bool true) ∧ Below w.heap.size w w' := by
  obtain ⟨l, ao, ac⟩ := a0
  obtain ⟨ks, bo, bc⟩ := a1
  obtain ⟨hina, hlc, hcm⟩ := w0
  have hik := w1
  clear w1
  simp only at hina hlc hcm hik ⊢
  unfold maxLen at hcm
  have hkl := hik.len
  unfold maxLen at hkl
  go_enter Try.func5, Try.ntmps5
  go_wp2_with fail
  refine (begun5_ok _).mono ?_
  rintro e w1 ⟨rfl, hO1⟩
  go_wp2_with fail
  refine (small_at w1 ao ac l (hina.keeps hO1 (fun _ _ h => h))).mono ?_
  rintro e w1x ⟨sa, rfl, rfl, HA⟩
  cases sa with
  | false =>
    go_wp2_with fail
    go_ret
    exact ⟨rfl, hO1.below (Nat.le_refl _) (fun _ h => h.elim)⟩
  | true =>
  have hsa := HA.out (by simp)
  have HSA := Lib.hid hsa
  clear hsa HA
  by_cases h60 : 60 < l.length
  · go_wp2_with fail
    go_ret
    exact ⟨rfl, hO1.below (Nat.le_refl _) (fun _ h => h.elim)⟩
  go_wp2_with fail
  refine (new_ok w1 1048576 (by omega) (by omega)).mono ?_
  rintro e w2 ⟨rfl, hd2, ho2, hs2⟩
  clear hs2
  have z1 := hO1.size
  obtain ⟨d, hd⟩ : ∃ d, w1.heap.size + 1 = d := ⟨_, rfl⟩
  obtain ⟨mb, hm⟩ : ∃ mb, w1.heap.size = mb := ⟨_, rfl⟩
  have hdb : w.heap.size ≤ d := by omega
  have hmb : w.heap.size ≤ mb := by omega
  rw [hd, hm, One.new 4] at hd2
  rw [hd]
  clear hd hm
  have hO2 := hO1.trans ho2
  clear hO1 ho2 z1
  go_wp2_with fail
  go_loopw [5, 32] (fun v5 i wr => ∃ (k d mb : Nat) (o : Option File), k ≤ l.length ∧ i = .int .i64 k ∧ v5 = .pointer (some ⟨d, 0, none⟩) ∧ DiskAt wr d mb (one 4 o (-1) false) ∧ RowKit.Hid (Wg.At l k o) ∧ w.heap.size ≤ d ∧ w.heap.size ≤ mb ∧ Only NoBlock w wr) (fun _ i _ => l.length - (intOf i).toNat)
  case atStart => exact ⟨0, d, mb, none, by omega, rfl, rfl, hd2, Lib.hid (.inl ⟨rfl, rfl⟩), hdb, hmb, hO2⟩
  case round =>
    clear hd2 hO2 hdb hmb
    obtain ⟨k, d, mb, o, hk, rfl, rfl, hd3, HO, hdb, hmb, hO3⟩ := hrel
    have HX : RowKit.Hid (∀ k, k < w.heap.size → (k = d ∨ k = mb) → NoBlock k) := Lib.hid (by rintro k hk (rfl | rfl) <;> omega)
    obtain ⟨q1, q2, q3⟩ := Wg.opens HSA.out HO.out
    have HQ := Lib.hid (And.intro q1 (And.intro q2 q3))
    clear q1 q2 q3 HO
    by_cases hlt : k < l.length
    · obtain ⟨b, off, rfl, hcell⟩ := (hina.row.keeps hO3 (fun _ _ h => h)).at hlt
      have hap := Wg.apps HSA.out hlt
      have htx := Wg.text_one HSA.out hlt
      have hkk : (l.take k).length = k := by rw [List.length_take]; omega
      have HK := Lib.hid hkk
      have HP := Lib.hid (And.intro hap htx)
      clear hap hkk htx
      generalize l.getD k ByteArray.empty = x at hcell HP
      go_wp2_with fail
      refine (open_ok hd3 (by decide) HQ.out.1 HQ.out.2.1 HQ.out.2.2).mono ?_
      rintro e w4 ⟨g, ao4, cap4, rfl, -, hlog4, hs4, -, hd4, ho4⟩
      have hO4 := hO3.andThen ho4 HX.out
      rw [HK.out]
      clear hO3 ho4 hd3 HQ hcell
      go_wp2_with fail
      refine (same_as hs4 ((hina.row.keeps hO4 (fun _ _ h => h)).take k) HK.out HK.out (b := true) (by simp)).mono ?_
      rintro e w5 ⟨rfl, q, rfl⟩
      have hO5 := hO4.drewN q
      have hd5 := hd4.keeps ((Only.refl NoBlock w4).drewN q) (fun h => h) (fun h => h)
      have hlog5 := Blk.keeps hlog4 ((Only.refl NoBlock w4).drewN q) (fun h => h)
      obtain ⟨w5, hw5⟩ : ∃ w5, w4.drewN q = w5 := ⟨_, rfl⟩
      rw [hw5] at hO5 hd5 hlog5 ⊢
      clear hw5 hO4 hd4 hlog4 hs4 HK
      go_wp2_with fail
      have hal5 := (Only.refl NoBlock w5).alloc (Obj.cells #[Value.string x] 9)
      refine (log_append_as (hd5.keeps hal5 (fun h => h) (fun h => h)) (Blk.keeps hlog5 hal5 (fun h => h)) (by decide) (strs_one w5 x _) rfl HP.out.2 HP.out.1.1 HP.out.1.2).mono ?_
      rintro e w6 ⟨rfl, hd6, ho6⟩
      have hO6 := (hO5.alloc _).andThen ho6 HX.out
      clear hO5 ho6 hd5 hlog5 hal5 HP
      go_upto_if 63 with (fail)
      go_cut [12] (fun v12 wx => ∃ kv : Int, v12 = .int .i64 kv ∧ (Lit.int .i64 kv).wf = true ∧ wx = w6)
      case first =>
        by_cases hkk : k < ks.length
        · obtain ⟨b2, o2, rfl, hc2⟩ := (hik.stay hO6 (fun _ _ h => h)).cell k hkk
          have hwk : (Lit.int .i64 (ks.getD k 0)).wf = true := by
            rw [List.getD_eq_getElem?_getD, List.getElem?_eq_getElem hkk]
            exact hik.wf _ (List.getElem_mem hkk)
          have HW := Lib.hid hwk
          clear hwk
          generalize ks.getD k 0 = kv at hc2 HW
          go_wp2_with fail
          go_meet
          exact ⟨kv, rfl, HW.out, rfl⟩
        · go_wp2_with fail
          go_meet
          exact ⟨0, rfl, by decide, rfl⟩
      case rest =>
        obtain ⟨kv, rfl, hwk, rfl⟩ := hcut
        have HW := Lib.hid hwk
        clear hwk
        go_wp2_with fail
        refine (append_as' hd6 (by decide) rfl (Wg.halfs HSA.out (k + 1))).mono ?_
        rintro e w7 ⟨rfl, hd7, ho7⟩
        have hO7 := hO6.andThen ho7 HX.out
        clear hO6 ho7 hd6
        go_wp2_with fail
        have hal7 := (Only.refl NoBlock w7).alloc (Obj.cells #[Value.int .i64 0, Value.int .i64 0, Value.int .i64 0, Value.int .i64 0, Value.int .i64 kv] 3)
        obtain ⟨o', ha', hc'⟩ := Wg.crashes hlt kv
        refine (crash_as (hd7.keeps hal7 (fun h => h) (fun h => h)) (Wg.ints_five w7 kv HW.out _) rfl hc').mono ?_
        rintro e w8 ⟨rfl, hd8, ho8⟩
        have hO8 := (hO7.alloc _).trans ho8
        have hz8 := hO7.size
        simp only [World.size_alloc] at hd8
        have HA := Lib.hid ha'
        clear hO7 ho8 hd7 hal7 ha' hc'
        go_wp2_with fail
        go_roundw
        case rel => exact ⟨k + 1, _, _, o', by omega, by go_num, rfl, hd8, HA, by omega, by omega, hO8⟩
        case measure => simp [intOf]; omega
    · obtain rfl : k = l.length := by omega
      rw [List.take_length] at HQ
      go_wp2_with fail
      refine (open_ok hd3 (by decide) HQ.out.1 HQ.out.2.1 HQ.out.2.2).mono ?_
      rintro e w4 ⟨g, ao4, cap4, rfl, -, -, hs4, -, hd4, ho4⟩
      have hO4 := hO3.andThen ho4 HX.out
      clear hO3 ho4 hd3 HQ hd4
      go_wp2_with fail
      refine (same_as hs4 (hina.row.keeps hO4 (fun _ _ h => h)) rfl rfl (b := true) (by simp)).mono ?_
      rintro e w5 ⟨rfl, q, rfl⟩
      go_wp2_with fail
      go_ret
      exact ⟨rfl, (hO4.drewN q).below (Nat.le_refl _) (fun _ h => h.elim)⟩

end Go.Proofs.Ytfmpmdkedpollaa
