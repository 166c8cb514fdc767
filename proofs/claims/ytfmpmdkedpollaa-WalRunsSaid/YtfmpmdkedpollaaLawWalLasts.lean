/- What was answered with OK is there behind a crash, in its order; of what wasn't some first records may be: the walk of the law. -/
import Derived.Test.YtfmpmdkedpollaaLawWalAnew
import Derived.Test.YtfmpmdkedpollaaAppTexts
import Derived.Deep.CutBlock
namespace Go.Proofs.Ytfmpmdkedpollaa
open Go.RowKit

abbrev RowT := List ByteArray × Option Addr × Nat
namespace Wl
def row (L : List RowT) (i : Nat) : List ByteArray := (L.getD i ([], none, 0)).1
def cat (L : List RowT) (k : Nat) : List ByteArray := ((L.take k).map (fun c => c.1)).flatten
def cnt (L : List RowT) (k : Nat) : Nat := ((L.take k).map (fun c => c.1.length + 1)).sum
theorem take_succ {L : List RowT} {k : Nat} (h : k < L.length) : L.take (k + 1) = L.take k ++ [L.getD k ([], none, 0)] := by
  rw [List.take_add_one, List.getElem?_eq_getElem h, List.getD_eq_getElem?_getD, List.getElem?_eq_getElem h]; rfl
theorem cat_succ {L : List RowT} {k : Nat} (h : k < L.length) : cat L (k + 1) = cat L k ++ row L k := by
  unfold cat row
  rw [take_succ h]
  simp
theorem cnt_succ {L : List RowT} {k : Nat} (h : k < L.length) : cnt L (k + 1) = cnt L k + ((row L k).length + 1) := by
  unfold cnt row
  rw [take_succ h]
  simp
theorem cnt_mono {L : List RowT} {k j : Nat} (h : k ≤ j) : cnt L k ≤ cnt L j := by
  have e : L.take j = L.take k ++ (L.take j).drop k := by
    have := (List.take_append_drop k (L.take j)).symm
    rw [List.take_take, show min k j = k from by omega] at this
    exact this
  unfold cnt
  rw [e, List.map_append, List.sum_append]
  omega
/-- all batches up to k are small, and they aren't many -/
def Ok (L : List RowT) (k : Nat) : Prop := (∀ i, i < k → small (row L i)) ∧ cnt L k ≤ 100
theorem bounds {L : List RowT} : ∀ {k : Nat}, k ≤ L.length → (∀ i, i < k → small (row L i)) → total (cat L k) ≤ 10000 * cnt L k ∧ (cat L k).length ≤ cnt L k
  | 0, _, _ => by simp [cat, cnt, total]
  | k + 1, hk, h => by
    obtain ⟨h1, h2⟩ := bounds (k := k) (by omega) (fun i hi => h i (by omega))
    have hs := h k (by omega)
    rw [cat_succ (by omega), cnt_succ (by omega)]
    have e1 : total (cat L k ++ row L k) = total (cat L k) + total (row L k) := by simp [total]
    rw [e1, List.length_append]
    refine ⟨?_, by omega⟩
    cases hr : row L k with
    | nil =>
      have e0 : total ([] : List ByteArray) = 0 := rfl
      rw [e0]
      omega
    | cons x r =>
      rw [hr] at hs
      have := hs.1
      simp only [List.length_cons]
      omega
theorem text_tight (l : List ByteArray) : (Wal.text l).size ≤ total l + total l / 254 + 8 * l.length := by
  induction l with
  | nil => simp [Wal.text_nil]
  | cons x r ih =>
    have e : Wal.text (x :: r) = Wal.text [x] ++ Wal.text r := Wal.text_append [x] r
    have e2 : Wal.text [x] = textOf (Wal.frame (nums x)) := by
      unfold Wal.text
      rw [List.map_cons, List.map_nil, Wal.frames_cons, Wal.frames_nil, List.append_nil]
    have h1 := Wal.frame_long (nums x)
    rw [nums_length] at h1
    rw [e, e2, ByteArray.size_append, textOf_size]
    have : total (x :: r) = x.size + total r := by simp [total]
    rw [this, List.length_cons]
    omega
theorem fits {L : List RowT} {k : Nat} (hk : k ≤ L.length) (h : Ok L k) : (Wal.text (cat L k)).size ≤ 1048576 := by
  obtain ⟨h1, h2⟩ := bounds hk h.1
  have h3 := text_tight (cat L k)
  have h4 := h.2
  omega
theorem mem_cat {L : List RowT} {x : ByteArray} : ∀ {k : Nat}, k ≤ L.length → x ∈ cat L k → ∃ i, i < k ∧ x ∈ row L i
  | 0, _, h => by simp [cat] at h
  | k + 1, hk, h => by
    rw [cat_succ (by omega)] at h
    rcases List.mem_append.1 h with h | h
    · obtain ⟨i, hi, hx⟩ := mem_cat (by omega) h
      exact ⟨i, by omega, hx⟩
    · exact ⟨k, by omega, h⟩
theorem size_of_small {l : List ByteArray} (h : small l) {x : ByteArray} (hx : x ∈ l) : x.size ≤ 65536 := by
  obtain ⟨i, hi, rfl⟩ := List.mem_iff_getElem.1 hx
  have := Wa.small_65 h i hi
  rw [List.getD_eq_getElem?_getD, List.getElem?_eq_getElem hi] at this
  exact this
theorem each {L : List RowT} {k : Nat} (hk : k ≤ L.length) (h : ∀ i, i < k → small (row L i)) : ∀ i, i < (cat L k).length → ((cat L k).getD i ByteArray.empty).size ≤ 65536 := by
  intro i hi
  rw [List.getD_eq_getElem?_getD, List.getElem?_eq_getElem hi, Option.getD_some]
  obtain ⟨j, hj, hx⟩ := mem_cat hk (List.getElem_mem hi)
  exact size_of_small (h j hj) hx

theorem text_zero {X : List ByteArray} (h : (Wal.text X).size = 0) : X = [] := by
  cases X with
  | nil => rfl
  | cons x r =>
    have := Wb.text_lt (x :: r) (k := 0) (by simp)
    have h2 := Wal.text_take_le (x :: r) (0 + 1)
    omega
/-- a crash, and an opening: what was synced is there, and some first ones of the others -/
theorem crash_open {X Y : List ByteArray} (h : ∀ i, i < (X ++ Y).length → ((X ++ Y).getD i ByteArray.empty).size ≤ 65536) (hs : (Wal.text (X ++ Y)).size ≤ 1048576) (F : Int) (b : Bool) (k : Int) :
    ∃ (o : Option File) (l : List ByteArray), (one 0 (some (Wal.text X, Wal.text Y)) F b).crash (keepOf [k]) = one 0 o (-1) false ∧ Wal.openE (one 0 o (-1) false) 0 = 0 ∧ Wal.openL (one 0 o (-1) false) 0 = l ∧
      X.length ≤ l.length ∧ l.length ≤ (X ++ Y).length ∧ l = (X ++ Y).take l.length := by
  have e0 : ByteArray.empty.size = 0 := rfl
  have hk : keepOf [k] 0 = k := rfl
  have hts : (Wal.text X).size + (Wal.text Y).size ≤ 1048576 := by rw [Wal.text_append, ByteArray.size_append] at hs; exact hs
  by_cases hc : (Wal.text X).size = 0 ∧ (max 0 (min k ((Wal.text Y).size : Int))).toNat = 0 ∧ (Wal.text Y).size ≠ 0
  · have hx := text_zero hc.1
    subst hx
    obtain ⟨h1, _, h3⟩ := One.open_none (n := 0) (by decide) (by decide)
    refine ⟨none, [], ?_, h1, h3, by simp, by simp, by simp⟩
    rw [One.crash]
    simp only
    unfold leftFile
    simp only
    rw [hk, if_pos hc]
  · generalize hj : (max 0 (min k ((Wal.text Y).size : Int))).toNat = j at hc
    have hjl : j ≤ (Wal.text Y).size := by omega
    obtain ⟨h1, _, h3⟩ := One.open_some (n := 0) (by decide) (by decide) (A := Wal.text X ++ (Wal.text Y).extract 0 j) (B := ByteArray.empty) (by rw [ByteArray.size_append]; simp; omega)
    rw [ByteArray.append_empty] at h3
    obtain ⟨t, ht, hsc, hle, hgt⟩ := Wb.scan_take h ((Wal.text X).size + j)
    have hex : (Wal.text (X ++ Y)).extract 0 ((Wal.text X).size + j) = Wal.text X ++ (Wal.text Y).extract 0 j := by
      apply nums_inj
      rw [Wal.text_append, nums_extract, nums_append, nums_append, nums_extract, List.drop_zero, List.drop_zero, Nat.sub_zero, Nat.sub_zero, List.take_append, nums_length, Nat.add_sub_cancel_left]
      rw [List.take_of_length_le (by rw [nums_length]; omega)]
    rw [hex] at hsc
    have hXt : X.length ≤ t := by
      rcases Nat.lt_or_ge t X.length with hlt | hge
      · have h5 := hgt (by rw [List.length_append]; omega)
        have h6 := Wb.text_mono (X ++ Y) (i := t + 1) (k := X.length) (by omega)
        rw [List.take_left] at h6
        omega
      · exact hge
    have hlen : ((X ++ Y).take t).length = t := by rw [List.length_take]; omega
    refine ⟨some (Wal.text X ++ (Wal.text Y).extract 0 j, ByteArray.empty), (X ++ Y).take t, ?_, h1, ?_, by rw [hlen]; exact hXt, by rw [hlen]; exact ht, by rw [hlen]⟩
    · rw [One.crash]
      simp only
      unfold leftFile
      simp only
      rw [hk, hj, if_neg hc]
    · rw [h3]
      unfold Wal.recs
      rw [hsc]
      exact Wb.map_nums _
/-- what the file holds behind the writing: X is sure, Y may be there, Z was to be written -/
structure Last (X Y Z : List ByteArray) : Prop where
  from' : Y = Z ∨ Y = []
  each : ∀ i, i < (X ++ Y).length → ((X ++ Y).getD i ByteArray.empty).size ≤ 65536
  fit : (Wal.text (X ++ Y)).size ≤ 1048576
  few : (X ++ Z).length ≤ 100
theorem Last.end {X Y Z : List ByteArray} (h : Last X Y Z) (F : Int) (b : Bool) (k : Int) :
    ∃ (o : Option File) (l : List ByteArray), (one 0 (some (Wal.text X, Wal.text Y)) F b).crash (keepOf [k]) = one 0 o (-1) false ∧ Wal.openE (one 0 o (-1) false) 0 = 0 ∧ Wal.openL (one 0 o (-1) false) 0 = l ∧
      X.length ≤ l.length ∧ l.length ≤ (X ++ Z).length ∧ l = (X ++ Z).take l.length := by
  obtain ⟨o, l, h1, h2, h3, h4, h5, h6⟩ := crash_open h.each h.fit F b k
  refine ⟨o, l, h1, h2, h3, h4, ?_, ?_⟩
  · rcases h.from' with rfl | rfl
    · exact h5
    · rw [List.length_append] at h5 ⊢; simp at h5; omega
  · rcases h.from' with rfl | rfl
    · exact h6
    · have hl : l.length = X.length := by rw [List.append_nil] at h5; omega
      have h7 := h6
      rw [List.append_nil, hl, List.take_length] at h7
      rw [hl, List.take_left]
      exact h7
theorem last_full {L : List RowT} {k : Nat} (hk : k ≤ L.length) (h : Ok L k) : Last (cat L k) [] [] :=
  ⟨.inr rfl, by rw [List.append_nil]; exact each hk h.1, by rw [List.append_nil]; exact fits hk h, by rw [List.append_nil]; have := (bounds hk h.1).2; have := h.2; omega⟩
theorem Ok.down {L : List RowT} {k j : Nat} (h : Ok L j) (hk : k ≤ j) : Ok L k := ⟨fun i hi => h.1 i (by omega), Nat.le_trans (cnt_mono hk) h.2⟩
theorem last_dry {L : List RowT} {k : Nat} (hk : k < L.length) (h : Ok L (k + 1)) : Last (cat L k) [] (row L k) :=
  ⟨.inr rfl, by rw [List.append_nil]; exact each (by omega) (h.down (by omega)).1, by rw [List.append_nil]; exact fits (by omega) (h.down (by omega)), by rw [← cat_succ hk]; have := (bounds (k := k + 1) (by omega) h.1).2; have := h.2; omega⟩
theorem last_half {L : List RowT} {k : Nat} (hk : k < L.length) (h : Ok L (k + 1)) : Last (cat L k) (row L k) (row L k) :=
  ⟨.inl rfl, by rw [← cat_succ hk]; exact each (by omega) h.1, by rw [← cat_succ hk]; exact fits (by omega) h, by rw [← cat_succ hk]; have := (bounds (k := k + 1) (by omega) h.1).2; have := h.2; omega⟩
theorem long_row {L : List RowT} {k : Nat} (h : Ok L (k + 1)) : Wal.long (row L k) = false := Wa.small_long (h.1 k (by omega))
theorem room {L : List RowT} {k : Nat} (hk : k < L.length) (h : Ok L (k + 1)) : (Wal.text (cat L k)).size + ByteArray.empty.size + (Wal.text (row L k)).size ≤ 1048576 := by
  have := fits (k := k + 1) (by omega) h
  rw [cat_succ hk, Wal.text_append, ByteArray.size_append] at this
  have e0 : ByteArray.empty.size = 0 := rfl
  omega
theorem app0 {L : List RowT} {k : Nat} (hk : k < L.length) (h : Ok L (k + 1)) :
    Wal.appE (one 0 (some (Wal.text (cat L k), ByteArray.empty)) 0 false) 0 (row L k) = 10 ∧ Wal.app (one 0 (some (Wal.text (cat L k), ByteArray.empty)) 0 false) 0 (row L k) = one 0 (some (Wal.text (cat L k), Wal.text [])) 0 true :=
  One.app_dry (by decide) (by decide) (long_row h) (room hk h)
theorem app1 {L : List RowT} {k : Nat} (hk : k < L.length) (h : Ok L (k + 1)) :
    Wal.appE (one 0 (some (Wal.text (cat L k), ByteArray.empty)) 1 false) 0 (row L k) = 10 ∧ Wal.app (one 0 (some (Wal.text (cat L k), ByteArray.empty)) 1 false) 0 (row L k) = one 0 (some (Wal.text (cat L k), Wal.text (row L k))) 0 true := by
  obtain ⟨h1, h2⟩ := One.app_half (n := 0) (by decide) (by decide) (long_row h) (room hk h)
  rw [ByteArray.empty_append] at h2
  exact ⟨h1, h2⟩
theorem app2 {L : List RowT} {k : Nat} (hk : k < L.length) (h : Ok L (k + 1)) {F : Int} (h0 : F ≠ 0) (h1 : F ≠ 1) :
    Wal.appE (one 0 (some (Wal.text (cat L k), ByteArray.empty)) F false) 0 (row L k) = 0 ∧ Wal.app (one 0 (some (Wal.text (cat L k), ByteArray.empty)) F false) 0 (row L k) = one 0 (some (Wal.text (cat L (k + 1)), ByteArray.empty)) (One.dec (One.dec F)) false := by
  obtain ⟨h2, h3⟩ := One.app_go (n := 0) (by decide) (by decide) (long_row h) h0 h1 (room hk h)
  rw [ByteArray.empty_append, ← Wal.text_append, ← cat_succ hk] at h3
  exact ⟨h2, h3⟩
theorem dec_ge {F : Int} (h : -1 ≤ F) (h1 : F ≤ 9223372036854775807) : -1 ≤ One.dec F ∧ One.dec F ≤ 9223372036854775807 := by unfold One.dec; split <;> omega
end Wl

theorem Strs.ne {w : World} {base : Nat} {v : Value} {l : List ByteArray} {b : Nat} (h : Strs w base v l) (hb : ∀ cs, w.heap[b]? ≠ some (.cells cs 9 (0, 0))) : v.ownBlock ≠ some b := by
  rcases h.2 with ⟨rfl, _⟩ | ⟨g, cap, cur, rfl, _, hg, _⟩
  · intro e; cases e
  · intro e
    cases e
    exact hb _ hg
theorem Strs.disk {w : World} {base : Nat} {v : Value} {l : List ByteArray} {d mb : Nat} {M : DM} (h : Strs w base v l) (hd : DiskAt w d mb M) : ∀ k, v.ownBlock = some k → ¬ (k = d ∨ k = mb) := by
  rintro k hk (rfl | rfl)
  · refine h.ne (fun cs e => ?_) hk
    have := hd.blk
    unfold Blk at this
    rw [this] at e
    cases e
  · refine h.ne (fun cs e => ?_) hk
    obtain ⟨D, ⟨es, clock, hb, _⟩, _⟩ := hd.files
    rw [hb] at e
    cases e
theorem Strs.log {w : World} {base : Nat} {v : Value} {l : List ByteArray} {g d : Nat} {n : Int} (h : Strs w base v l) (hl : LogAt w g d n) : v.ownBlock ≠ some g := by
  refine h.ne (fun cs e => ?_)
  unfold LogAt Blk at hl
  rw [hl] at e
  cases e

set_option maxRecDepth 100000 in
set_option maxHeartbeats 4000000 in
theorem walk_WalLasts {w : World} (a0 : List RowT × Option Addr × Nat) (w0 : RowsIn w a0.2.1 a0.1) (a1 : Int) (w1 : (Lit.int .i64 a1).wf = true) (a2 : Int) (w2 : (Lit.int .i64 a2).wf = true) :
    Calls Try.prog 6 #[.slice a0.2.1 a0.1.length a0.2.2, .int .i64 a1, .int .i64 a2] w fun e w' => e = .returned (.bool true) ∧ Below w.heap.size w w' := by
  obtain ⟨L, ao, ac⟩ := a0
  have hin := w0
  have hwf := w1
  have hwk := w2
  clear w0 w1 w2
  simp only at hin ⊢
  obtain ⟨hf0, hf1⟩ := bounds_i64 hwf
  have hLm := hin.len
  unfold maxLen at hLm
  go_enter Try.func6, Try.ntmps6
  go_wp2_with fail
  refine (begun5_ok _).mono ?_
  rintro e w1 ⟨rfl, hO1⟩
  go_wp2_with fail
  go_loop [7, 26] (fun v7 i => ∃ k : Nat, k ≤ L.length ∧ i = .int .i64 k ∧ v7 = .int .i64 (Wl.cnt L k) ∧ Wl.cnt L k ≤ 100 ∧ RowKit.Hid (Wl.Ok L k)) (fun _ i => L.length - (intOf i).toNat)
  case atStart => exact ⟨0, by omega, rfl, rfl, by simp [Wl.cnt], Lib.hid ⟨fun i hi => by omega, by simp [Wl.cnt]⟩⟩
  case round =>
    obtain ⟨k, hk, rfl, rfl, hc100, HOk⟩ := hrel
    by_cases hlt : k < L.length
    · have hin1 := hin.keeps hO1
      obtain ⟨b, off, rfl, hcell⟩ := hin1.cell k hlt
      have htx := hin1.texts k hlt
      have hcs := Wl.cnt_succ hlt
      have hfew := htx.few
      have HC := Lib.hid hcs
      clear hcs hin1
      have hrow : (L.getD k ([], none, 0)).1 = Wl.row L k := rfl
      rw [hrow] at hcell htx hfew
      clear hrow
      generalize (L.getD k ([], none, 0)).2.1 = ak at hcell htx
      generalize (L.getD k ([], none, 0)).2.2 = ck at hcell
      go_wp2_with fail
      refine (small_at w1 ak ck (Wl.row L k) htx).mono ?_
      rintro e w1x ⟨sb, rfl, rfl, HB⟩
      cases sb with
      | false =>
        go_wp2_with fail
        go_ret
        exact ⟨rfl, hO1.below (Nat.le_refl _) (fun _ h => h.elim)⟩
      | true =>
        have hsm := HB.out (by simp)
        have hs2 := hsm.2
        have HS := Lib.hid hsm
        clear hsm HB
        by_cases hbig : 100 < Wl.cnt L k + ((Wl.row L k).length + 1)
        · go_wp2_with fail
          go_ret
          exact ⟨rfl, hO1.below (Nat.le_refl _) (fun _ h => h.elim)⟩
        · go_wp2_with fail
          go_round
          case rel =>
            refine ⟨k + 1, by omega, by go_num, by rw [HC.out]; go_num, by rw [HC.out]; omega, Lib.hid ⟨?_, by rw [HC.out]; omega⟩⟩
            intro i hi
            rcases Nat.lt_or_ge i k with h2 | h2
            · exact HOk.out.1 i h2
            · obtain rfl : i = k := by omega
              exact HS.out
          case measure => simp [intOf]; omega
    · obtain rfl : k = L.length := by omega
      go_wp2_with fail
      clear hc100
      refine (new_ok w1 1048576 (by omega) (by omega)).mono ?_
      rintro e w2 ⟨rfl, hd2, ho2, hs2⟩
      clear hs2
      have z1 := hO1.size
      obtain ⟨d, hd⟩ : ∃ d, w1.heap.size + 1 = d := ⟨_, rfl⟩
      obtain ⟨mb, hm⟩ : ∃ mb, w1.heap.size = mb := ⟨_, rfl⟩
      have hdb : w.heap.size ≤ d := by omega
      have hmb : w.heap.size ≤ mb := by omega
      rw [hd, hm, One.new 0] at hd2
      rw [hd]
      clear hd hm
      have HX : RowKit.Hid (∀ k, k < w.heap.size → (k = d ∨ k = mb) → NoBlock k) := Lib.hid (by rintro k hk (rfl | rfl) <;> omega)
      have hO2 := hO1.trans ho2
      clear hO1 ho2 z1
      go_wp2_with fail
      refine (open_ok hd2 (by decide) (One.open_none (n := 0) (by decide) (by decide)).1 (One.open_none (n := 0) (by decide) (by decide)).2.1 (One.open_none (n := 0) (by decide) (by decide)).2.2).mono ?_
      rintro e w3 ⟨g, ao3, cap3, rfl, hg3, hlog3, -, -, hd3, ho3⟩
      have hO3 := hO2.andThen ho3 HX.out
      obtain ⟨hgd, hgm⟩ := LogAt.apart hlog3 hd3
      have hgb : w.heap.size ≤ g := by have := hO2.size; omega
      clear hO2 ho3 hd2 hg3
      go_wp2_with fail
      refine (fuel_at w3 d mb _ a1 (by omega) hd3).mono ?_
      rintro e w4 ⟨rfl, hd4, ho4⟩
      have hO4 := hO3.andThen ho4 HX.out
      have hlog4 := Blk.keeps hlog3 ho4 (fun e => e.elim hgd hgm)
      rw [One.setFuel] at hd4
      have hFb : -1 ≤ (if a1 < -1 then (-1 : Int) else a1) ∧ (if a1 < -1 then (-1 : Int) else a1) ≤ 9223372036854775807 := by split <;> omega
      generalize (if a1 < -1 then (-1 : Int) else a1) = F0 at hd4 hFb
      clear hO3 ho4 hlog3 hd3
      go_upto_block 2 with (fail)
      go_cut [15, 16] (fun v15 v16 wx => ∃ (X Y Z : List ByteArray) (F : Int) (b : Bool), Strs wx w.heap.size v15 X ∧ Strs wx w.heap.size v16 (X ++ Z) ∧ DiskAt wx d mb (one 0 (some (Wal.text X, Wal.text Y)) F b) ∧ Only NoBlock w wx ∧ RowKit.Hid (Wl.Last X Y Z))
      case first =>
        go_wp2_with fail
        go_loopw [15, 16, 60] (fun v15 v16 i wr => ∃ (k : Nat) (F : Int), k ≤ L.length ∧ i = .int .i64 k ∧ Strs wr w.heap.size v15 (Wl.cat L k) ∧ Strs wr w.heap.size v16 (Wl.cat L k) ∧ (∀ j, v15.ownBlock = some j → v16.ownBlock ≠ some j) ∧
            DiskAt wr d mb (one 0 (some (Wal.text (Wl.cat L k), ByteArray.empty)) F false) ∧ LogAt wr g d 0 ∧ Only NoBlock w wr ∧ -1 ≤ F ∧ F ≤ 9223372036854775807) (fun _ _ i _ => L.length - (intOf i).toNat)
        case atStart => exact ⟨0, F0, by omega, rfl, Strs.nil _ _, Strs.nil _ _, (fun j hj => by cases hj), hd4, hlog4, hO4, hFb.1, hFb.2⟩
        case round =>
          clear hd4 hlog4 hO4 hFb
          obtain ⟨k, F, hk, rfl, hr15, hr16, hne, hd5, hlog5, hO5, hF1, hF2⟩ := hrel
          by_cases hlt : k < L.length
          · have hin5 := hin.keeps hO5
            obtain ⟨b, off, rfl, hcell⟩ := hin5.cell k hlt
            have htx := hin.texts k hlt
            have hOk2 := HOk.out.down (k := k + 1) (by omega)
            have HO2 := Lib.hid hOk2
            have hcl := (Wl.bounds (k := k + 1) (by omega) hOk2.1).2
            have hc1 := hOk2.2
            have hcs := Wl.cat_succ hlt
            rw [hcs, List.length_append] at hcl
            have HCS := Lib.hid hcs
            have hfit := Wl.room hlt hOk2
            clear hOk2 hcs hin5
            have hrow : (L.getD k ([], none, 0)).1 = Wl.row L k := rfl
            rw [hrow] at hcell htx
            clear hrow
            generalize (L.getD k ([], none, 0)).2.1 = ak at hcell htx
            generalize (L.getD k ([], none, 0)).2.2 = ck at hcell
            go_wp2_with fail
            by_cases hF0 : F = 0
            · subst hF0
              refine (log_append_as hd5 hlog5 (by decide) (htx.row.keeps hO5 (fun _ _ h => h)) rfl (by omega) (Wl.app0 hlt HO2.out).1 (Wl.app0 hlt HO2.out).2).mono ?_
              rintro e w6 ⟨rfl, hd6, ho6⟩
              have hO6 := hO5.andThen ho6 HX.out
              have h15 := hr15.keeps ho6 (hr15.disk hd5)
              have h16 := hr16.keeps ho6 (hr16.disk hd5)
              have hlog6 := Blk.keeps hlog5 ho6 (fun e => e.elim hgd hgm)
              have hb6 := hO6.size
              clear hr15 hr16 hd5 hlog5 hO5 ho6
              go_wp2_with (first
                | (at_builtin; refine wpList_append_texts _ rfl _ _ rfl w.heap.size _ (Wl.cat L k) (Wl.row L k) ak _ ck rfl h16 rfl rfl (htx.row.keeps hO6 (fun _ _ h => h)) (by omega) (by omega) ?_; intro v7 w7 hs7 hg7 hor7))
              have hO7 : Only NoBlock w w7 := hO6.appended h16 (Nat.le_refl _) hg7
              have hOg7 := Only.of_grown hg7
              have h157 : Strs w7 w.heap.size _ (Wl.cat L k) := h15.keeps hOg7 (fun j hj e => hne j hj e)
              have hd7 := hd6.keeps hOg7 (fun e => h16.disk hd6 _ e (.inl rfl)) (fun e => h16.disk hd6 _ e (.inr rfl))
              go_meet
              exact ⟨_, [], _, 0, true, h157, hs7, hd7, hO7, Lib.hid (Wl.last_dry hlt HO2.out)⟩
            · by_cases hF1' : F = 1
              · subst hF1'
                refine (log_append_as hd5 hlog5 (by decide) (htx.row.keeps hO5 (fun _ _ h => h)) rfl (by omega) (Wl.app1 hlt HO2.out).1 (Wl.app1 hlt HO2.out).2).mono ?_
                rintro e w6 ⟨rfl, hd6, ho6⟩
                have hO6 := hO5.andThen ho6 HX.out
                have h15 := hr15.keeps ho6 (hr15.disk hd5)
                have h16 := hr16.keeps ho6 (hr16.disk hd5)
                have hlog6 := Blk.keeps hlog5 ho6 (fun e => e.elim hgd hgm)
                have hb6 := hO6.size
                clear hr15 hr16 hd5 hlog5 hO5 ho6
                go_wp2_with (first
                  | (at_builtin; refine wpList_append_texts _ rfl _ _ rfl w.heap.size _ (Wl.cat L k) (Wl.row L k) ak _ ck rfl h16 rfl rfl (htx.row.keeps hO6 (fun _ _ h => h)) (by omega) (by omega) ?_; intro v7 w7 hs7 hg7 hor7))
                have hO7 : Only NoBlock w w7 := hO6.appended h16 (Nat.le_refl _) hg7
                have hOg7 := Only.of_grown hg7
                have h157 : Strs w7 w.heap.size _ (Wl.cat L k) := h15.keeps hOg7 (fun j hj e => hne j hj e)
                have hd7 := hd6.keeps hOg7 (fun e => h16.disk hd6 _ e (.inl rfl)) (fun e => h16.disk hd6 _ e (.inr rfl))
                go_meet
                exact ⟨_, _, _, 0, true, h157, hs7, hd7, hO7, Lib.hid (Wl.last_half hlt HO2.out)⟩
              · have HA := Lib.hid (Wl.app2 hlt HO2.out hF0 hF1')
                obtain ⟨hG1, hG2⟩ := Wl.dec_ge hF1 hF2
                obtain ⟨hH1, hH2⟩ := Wl.dec_ge hG1 hG2
                generalize One.dec (One.dec F) = G at HA hH1 hH2
                clear hF0 hF1' hG1 hG2
                refine (log_append_as hd5 hlog5 (by decide) (htx.row.keeps hO5 (fun _ _ h => h)) rfl (by omega) (HA.out).1 (HA.out).2).mono ?_
                rintro e w6 ⟨rfl, hd6, ho6⟩
                have hO6 := hO5.andThen ho6 HX.out
                have h15 := hr15.keeps ho6 (hr15.disk hd5)
                have h16 := hr16.keeps ho6 (hr16.disk hd5)
                have hlog6 := Blk.keeps hlog5 ho6 (fun e => e.elim hgd hgm)
                have hb6 := hO6.size
                clear hr15 hr16 hd5 hlog5 hO5 ho6
                go_wp2_with (first
                  | (at_builtin; refine wpList_append_texts _ rfl _ _ rfl w.heap.size _ (Wl.cat L k) (Wl.row L k) ak _ ck rfl h16 rfl rfl (htx.row.keeps hO6 (fun _ _ h => h)) (by omega) (by omega) ?_; intro v7 w7 hs7 hg7 hor7; rw [← List.length_append] at hcl; obtain ⟨a7, c7, hv7⟩ := hs7.shape; have hin7 := (Strs.read (by rw [← hv7]; exact hs7)).1; rw [hv7])
                  | (at_builtin; refine wpList_append_texts _ rfl _ _ rfl w.heap.size (.slice none 0 0) [] (Wl.cat L k ++ Wl.row L k) a7 _ c7 rfl (Strs.nil _ _) rfl (by simp) hin7 (by simp only [List.length_nil]; omega) (by have := hg7.size; omega) ?_; intro v8 w8 hs8 hg8 hor8))
                have hO7 : Only NoBlock w w7 := hO6.appended h16 (Nat.le_refl _) hg7
                have hOg7 := Only.of_grown hg7
                have hd7 := hd6.keeps hOg7 (fun e => h16.disk hd6 _ e (.inl rfl)) (fun e => h16.disk hd6 _ e (.inr rfl))
                have hl7 := Blk.keeps hlog6 hOg7 (fun e => h16.log hlog6 e)
                have hOg8 : Only NoBlock w7 w8 := (Only.of_grown hg8).mono (fun i hi => by cases hi)
                rw [List.length_append] at hv7
                go_roundw
                case rel =>
                  refine ⟨k + 1, G, by omega, by go_num, ?_, ?_, ?_, hd7.keeps hOg8 (fun h => h) (fun h => h), Blk.keeps hl7 hOg8 (fun h => h), hO7.trans hOg8, hH1, hH2⟩
                  · rw [HCS.out]; exact hs8
                  · rw [HCS.out, ← hv7]; exact hs7.keeps hOg8 (fun _ _ h => h)
                  · intro j hj e
                    rcases hor8 with h8 | h8
                    · rw [h8] at hj; cases hj
                    · rw [h8] at hj
                      cases hj
                      rw [← hv7] at e
                      have := (World.ownsRow.lt hs7 _ e).2
                      omega
                case measure => simp [intOf]; omega
          · obtain rfl : k = L.length := by omega
            have hd5' : DiskAt wr d mb (one 0 (some (Wal.text (Wl.cat L L.length), Wal.text [])) F false) := hd5
            clear hd5
            go_wp2_with fail
            go_meet
            exact ⟨_, [], [], F, false, hr15, (by rw [List.append_nil]; exact hr16), hd5', hO5, Lib.hid (Wl.last_full (Nat.le_refl _) HOk.out)⟩
      case rest =>
        clear hd4 hlog4 hO4 hFb
        obtain ⟨X, Y, Z, F, b, h15, h16, hd5, hO5, HL⟩ := hcut
        obtain ⟨o, l, hc1, hc2, hc3, hc4, hc5, hc6⟩ := HL.out.end F b a2
        have hfew := HL.out.few
        have hc5' := hc5
        rw [List.length_append] at hc5'
        have HC := Lib.hid (And.intro hc1 (And.intro hc2 hc3))
        have HE := Lib.hid hc6
        clear hc1 hc2 hc3 hc6
        have hlt16 := World.ownsRow.lt h16
        obtain ⟨a15, c15, rfl, hi15, -, -⟩ := h15.isIn
        obtain ⟨a16, c16, rfl, hi16, hcap16, hcm16⟩ := h16.isIn
        unfold maxLen at hcm16
        clear h15 h16
        obtain ⟨wx, hwx⟩ : ∃ wx : World, wx = w := ⟨_, rfl⟩
        clear hwx
        go_wp2_with fail
        have hal5 : ∀ W : World, Only NoBlock W (W.alloc (Obj.cells #[Value.int .i64 a2] 3)) := fun W => (Only.refl NoBlock W).alloc _
        refine (crash_as (hd5.keeps (hal5 _) (fun h => h) (fun h => h)) (ints_one _ a2 hwk _) rfl HC.out.1).mono ?_
        rintro e w7 ⟨rfl, hd7, ho7⟩
        have hO7 := (hO5.alloc _).trans ho7
        have hz5 := hO5.size
        simp only [World.size_alloc] at hd7
        have hi16' := (hi16.keeps (hal5 _) (fun _ _ h => h)).keeps ho7 (fun _ _ h => h)
        clear hO5 ho7 hd5 hi16
        go_wp2_with fail
        refine (open_ok hd7 (by decide) HC.out.2.1 rfl HC.out.2.2).mono ?_
        rintro e w8 ⟨g8, ao8, cap8, rfl, -, -, hs8, -, hd8, ho8⟩
        have hO8 : Only NoBlock w w8 := hO7.andThen ho8 (by rintro i hi (e | e) <;> omega)
        have hi8 := hi16'.keeps ho8 (by
          rintro a ea
          have := (hlt16 a.block (by rw [ea]; rfl)).2
          rintro (e | e) <;> omega)
        have hta := hi8.take l.length
        have hts : ((X ++ Z).take l.length).length = l.length := by rw [List.length_take]; omega
        have hdc : decide (l = (X ++ Z).take l.length) = true := by rw [← HE.out]; simp
        have HT := Lib.hid hts
        have HD := Lib.hid hdc
        clear hts hdc hlt16 hi16' hi8 ho8 hO7 hd7 hd8 hi15 hal5 HC HE HL
        go_wp2_with fail
        refine (same_as hs8 hta rfl HT.out HD.out).mono ?_
        rintro e w9 ⟨rfl, q, rfl⟩
        go_wp2_with fail
        go_ret
        exact ⟨rfl, (hO8.drewN q).below (Nat.le_refl _) (fun _ h => h.elim)⟩

end Go.Proofs.Ytfmpmdkedpollaa
