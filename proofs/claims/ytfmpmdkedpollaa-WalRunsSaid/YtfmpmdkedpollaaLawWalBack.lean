/- Records framed one behind the other are scanned as they were; what is cut off is scanned without the last ones: the walk of the law. -/
import Derived.Test.YtfmpmdkedpollaaBegun5
import Derived.Test.YtfmpmdkedpollaaInts
namespace Go.Proofs.Ytfmpmdkedpollaa
open Go.RowKit

namespace Wb
/-- where the records end -/
def ends (l : List ByteArray) (k : Nat) : List Int := (List.range k).map (fun i => ((Wal.text (l.take (i + 1))).size : Int))
theorem ends_length (l : List ByteArray) (k : Nat) : (ends l k).length = k := by simp [ends]
theorem ends_snoc (l : List ByteArray) (k : Nat) : ends l (k + 1) = ends l k ++ [((Wal.text (l.take (k + 1))).size : Int)] := by
  unfold ends
  rw [List.range_succ, List.map_append]
  rfl
theorem ends_at (l : List ByteArray) {k i : Nat} (h : i < k) : (ends l k).getD i 0 = ((Wal.text (l.take (i + 1))).size : Int) := by
  unfold ends
  rw [List.getD_eq_getElem?_getD, List.getElem?_map, List.getElem?_range h]
  rfl
theorem text_mono (l : List ByteArray) {i k : Nat} (h : i ≤ k) : (Wal.text (l.take i)).size ≤ (Wal.text (l.take k)).size := by
  have := Wal.text_take_le (l.take k) i
  rw [List.take_take, show min i k = i from by omega] at this
  exact this
theorem text_lt (l : List ByteArray) {k : Nat} (h : k < l.length) : (Wal.text (l.take k)).size < (Wal.text (l.take (k + 1))).size := by
  rw [Wal.take_snoc h, Wal.text_snoc, ByteArray.size_append, textOf_size]
  have := Wal.frame_pos (nums (l.getD k ByteArray.empty))
  omega
theorem nums_text (l : List ByteArray) : nums (Wal.text l) = Wal.frames (l.map nums) := by
  unfold Wal.text
  refine nums_textOf ?_
  intro x hx
  have : Wal.Byte (Wal.frames (l.map nums)) := by
    have h1 : ∀ L : List (List Int), (∀ y ∈ L, Wal.Byte y) → Wal.Byte (Wal.frames L) := by
      intro L
      induction L with
      | nil => intro _ x hx; cases hx
      | cons y r ih => intro h; rw [Wal.frames_cons]; exact (Wal.frame_byte (h y (by simp))).append (ih (fun z hz => h z (by simp [hz])))
    exact h1 _ (by intro y hy; obtain ⟨s, _, rfl⟩ := List.mem_map.1 hy; exact nums_byte s)
  exact this x hx
theorem recs_of {l : List ByteArray} (h : ∀ i, i < l.length → (l.getD i ByteArray.empty).size ≤ 65536) : Wal.Recs (l.map nums) := by
  intro x hx
  obtain ⟨s, hs, rfl⟩ := List.mem_map.1 hx
  obtain ⟨i, hi, rfl⟩ := List.mem_iff_getElem.1 hs
  have := h i hi
  rw [List.getD_eq_getElem?_getD, List.getElem?_eq_getElem hi, Option.getD_some] at this
  exact ⟨nums_byte _, by rw [nums_length]; exact this⟩
theorem map_nums (l : List ByteArray) : (l.map nums).map textOf = l := by
  rw [List.map_map]
  conv => rhs; rw [← List.map_id l]
  exact List.map_congr_left (fun x _ => textOf_nums x)
/-- the records of frames that are cut off -/
theorem scan_take {l : List ByteArray} (h : ∀ i, i < l.length → (l.getD i ByteArray.empty).size ≤ 65536) (n : Nat) :
    ∃ k, k ≤ l.length ∧ Wal.scan (nums ((Wal.text l).extract 0 n)) = ((l.take k).map nums, (Wal.text (l.take k)).size) ∧ (Wal.text (l.take k)).size ≤ n ∧ (k < l.length → n < (Wal.text (l.take (k + 1))).size) := by
  obtain ⟨k, hk, h1, h2, h3⟩ := Wal.scan_cut (recs_of h) n
  rw [List.length_map] at hk h3
  have e : nums ((Wal.text l).extract 0 n) = (Wal.frames (l.map nums)).take n := by rw [nums_extract, nums_text]; simp
  refine ⟨k, hk, ?_, ?_, ?_⟩
  · rw [e, h1, List.map_take, Wal.text_size, List.map_take]
  · rw [Wal.text_size, List.map_take]; exact h2
  · intro hlt
    rw [Wal.text_size, List.map_take]
    exact h3 hlt
theorem scan_all {l : List ByteArray} (h : ∀ i, i < l.length → (l.getD i ByteArray.empty).size ≤ 65536) : Wal.scan (nums (Wal.text l)) = (l.map nums, (Wal.text l).size) := by
  have h1 := Wal.scan_frames (recs_of h) (t := []) (by intro x hx; cases hx) Wal.first_nil
  rw [List.append_nil] at h1
  rw [nums_text, h1, Wal.text_size]
theorem small_each {l : List ByteArray} (h : small l) : ∀ i, i < l.length → (l.getD i ByteArray.empty).size ≤ 20000 := by
  intro i hi
  have h1 := total_take l (i + 1)
  rw [Wal.take_snoc hi, total_snoc] at h1
  have := h.1
  omega
theorem norm2 (a : Int) (L : Nat) (h : L ≤ 1000000000) : ∃ f : Nat, f ≤ L ∧ (wrap64 (wrap64 (a.tmod ((L : Int) + 1) + L) + 1)).tmod ((L : Int) + 1) = f := by
  have hm : (0 : Int) < (L : Int) + 1 := by omega
  have h2 := Int.tmod_lt_of_pos a hm
  have h3 : -((L : Int) + 1) < a.tmod ((L : Int) + 1) := Int.lt_tmod_of_pos a hm
  generalize a.tmod ((L : Int) + 1) = r at h2 h3 ⊢
  have hw : wrap64 (wrap64 (r + L) + 1) = r + L + 1 := by unfold wrap64; omega
  rw [hw, Int.tmod_eq_emod_of_nonneg (by omega)]
  have h4 := Int.emod_nonneg (r + L + 1) (by omega : (L : Int) + 1 ≠ 0)
  have h5 := Int.emod_lt_of_pos (r + L + 1) hm
  exact ⟨((r + L + 1) % ((L : Int) + 1)).toNat, by omega, by omega⟩
end Wb

set_option maxRecDepth 100000 in
set_option maxHeartbeats 4000000 in
theorem walk_WalBack {w : World} (a0 : List ByteArray × Option Addr × Nat) (w0 : TextsIn w a0.2.1 a0.1 ∧ a0.1.length ≤ a0.2.2 ∧ a0.2.2 ≤ maxLen) (a1 : Int) (_w1 : (Lit.int .i64 a1).wf = true) :
    Calls Try.prog 4 #[.slice a0.2.1 a0.1.length a0.2.2, .int .i64 a1] w fun e w' => e = .returned (.bool true) ∧ Below w.heap.size w w' := by
  obtain ⟨l, ao, cap⟩ := a0
  obtain ⟨hin, hlc, hcm⟩ := w0
  simp only at hin hlc hcm ⊢
  unfold maxLen at hcm
  have hfew := hin.few
  clear _w1
  go_enter Try.func4, Try.ntmps4
  go_wp2_with fail
  refine (begun5_ok w).mono ?_
  rintro e w1 ⟨rfl, ho1⟩
  go_wp2_with fail
  refine (small_at w1 ao cap l (hin.keeps ho1 (fun _ _ h => h))).mono ?_
  rintro e w2 ⟨b, rfl, rfl, HB⟩
  cases b with
  | false =>
    go_wp2_with fail
    go_ret
    exact ⟨rfl, ho1.below (Nat.le_refl _) (fun _ h => h.elim)⟩
  | true =>
    have hsm := HB.out rfl
    have h20 := Wb.small_each hsm
    have h65 : ∀ i, i < l.length → (l.getD i ByteArray.empty).size ≤ 65536 := fun i hi => by have := h20 i hi; omega
    have htx := text_total l
    obtain ⟨hs1, hs2⟩ := hsm
    have H65 := Lib.hid h65
    clear HB h20 h65
    go_wp2_with fail
    go_loopw [5, 6, 19] (fun v5 v6 i wr => ∃ k : Nat, k ≤ l.length ∧ i = .int .i64 k ∧ v5 = .string (Wal.text (l.take k)) ∧ Ints wr w.heap.size v6 (Wb.ends l k) ∧ Only NoBlock w wr) (fun _ _ i _ => l.length - (intOf i).toNat)
    case atStart => exact ⟨0, by omega, rfl, rfl, Ints.nil' _ _, ho1⟩
    case round =>
      obtain ⟨k, hk, rfl, rfl, hrow, ho⟩ := hrel
      have hz := ho.size
      by_cases hlt : k < l.length
      · obtain ⟨b, off, rfl, hcell⟩ := (hin.row.keeps ho (fun _ _ h => h)).at hlt
        have hts := Wal.take_snoc hlt
        have htx2 : Wal.text (l.take (k + 1)) = Wal.text (l.take k) ++ textOf (Wal.frame (nums (l.getD k ByteArray.empty))) := by rw [hts, Wal.text_snoc]
        have hfi := Wal.frame_in hlt
        have htl := Wal.text_take_le l (k + 1)
        have hes := Wb.ends_snoc l k
        have hel := Wb.ends_length l k
        rw [htx2, ByteArray.size_append] at htl
        have HT := Lib.hid htx2
        have HES := Lib.hid hes
        have HEL := Lib.hid hel
        clear htx2 hts hes hel
        generalize l.getD k ByteArray.empty = x at hcell hfi htl HT
        have hcat : (9223372036854775807 < (Wal.text (l.take k)).size + (textOf (Wal.frame (nums x))).size) = False := by simp; omega
        go_wp2_with (first
          | (go_at_call 14; refine (frame_at _ x (by omega)).mono ?_; rintro e w2 ⟨rfl, ho2⟩)
          | (at_builtin; refine wpList_append_int _ rfl _ _ rfl w.heap.size _ (Wb.ends l k) ((Wal.text (l.take (k + 1))).size : Int) ⟨w2.heap.size, 0, none⟩ 1 rfl ((hrow.keeps' ho2 (fun _ _ h => h)).keeps' ((Only.refl NoBlock _).alloc _) (fun _ _ h => h)) rfl ?_ (by rw [HEL.out]; omega) (by have := ho2.size; simp; omega) ?_; (rw [HT.out, cell_int _ _ _ _ rfl, ByteArray.size_append]; rfl); intro v' w3 hb3 hg3))
        go_roundw
        case rel =>
          refine ⟨k + 1, by omega, by go_num, by rw [HT.out], by rw [HES.out]; exact hb3, ?_⟩
          exact ((ho.trans ho2).alloc _).appended ((hrow.keeps' ho2 (fun _ _ h => h)).keeps' ((Only.refl NoBlock _).alloc _) (fun _ _ h => h)) (Nat.le_refl _) hg3
        case measure => simp [intOf]; omega
      · obtain rfl : k = l.length := by omega
        rw [List.take_length]
        have hsc := Wb.scan_all H65.out
        have HSC := Lib.hid hsc
        clear hsc
        go_wp2_with fail
        refine (scan_as (s := Wal.text l) (by omega) (m := l) (k := (Wal.text l).size) (by rw [HSC.out]; exact Wb.map_nums l) (by rw [HSC.out])).mono ?_
        rintro e w3 ⟨ao3, cap3, rfl, hin3, -, ho3⟩
        obtain ⟨ra, rc, rfl⟩ := Ints.shape hrow
        rw [Wb.ends_length] at hrow ⊢
        have hO3 := ho.trans ho3
        go_wp2_with fail
        refine (same_as (hin.row.keeps hO3 (fun _ _ h => h)) hin3 rfl rfl (b := true) (by simp)).mono ?_
        rintro e w4 ⟨rfl, q, rfl⟩
        go_wp2_with fail
        obtain ⟨f, hf, hn⟩ := Wb.norm2 a1 (Wal.text l).size (by omega)
        rw [hn]
        clear hn
        obtain ⟨K, hK, hs3, hle, hgt⟩ := Wb.scan_take H65.out f
        have HS3 := Lib.hid hs3
        have hKl : (l.take K).length = K := by rw [List.length_take]; omega
        have HK := Lib.hid hKl
        have H65' := H65
        clear hs3 hKl HSC
        have hrow3 : Ints (w3.drewN q) w.heap.size (.slice ra l.length rc) (Wb.ends l l.length) := (hrow.keeps' ho3 (fun _ _ h => h)).keeps' ((Only.refl NoBlock _).drewN _) (fun _ _ h => h)
        have hel := Wb.ends_length l l.length
        have hrl := Ints.lenLe (l := Wb.ends l l.length) (by rw [hel]; exact hrow3)
        rw [hel] at hrl
        unfold maxLen at hrl
        have HEL := Lib.hid hel
        clear hel
        have hq3 : Only NoBlock w (w3.drewN q) := hO3.drewN q
        obtain ⟨w5, hw5⟩ : ∃ w5, w3.drewN q = w5 := ⟨_, rfl⟩
        have hin5 : StrsIn w5 ao l := by rw [← hw5]; exact hin.row.keeps hq3 (fun _ _ h => h)
        rw [hw5] at hrow3 hq3 ⊢
        clear hw5 hrow hin3 ho3 ho hO3 hz
        go_loop [11] (fun v => ∃ t : Nat, t ≤ K ∧ v = .int .i64 t) (fun v => K - (intOf v).toNat)
        case atStart => exact ⟨0, by omega, rfl⟩
        case round =>
          obtain ⟨t, ht, rfl⟩ := hrel
          by_cases htk : t < K
          · have htl : t < l.length := by omega
            obtain ⟨b, off, rfl, hcell⟩ := Ints.at' (l := Wb.ends l l.length) (k := t) (by rw [HEL.out]; exact hrow3) (by rw [HEL.out]; omega)
            rw [Wb.ends_at l htl] at hcell
            have hm := Wb.text_mono l (i := t + 1) (k := K) (by omega)
            generalize (Wal.text (l.take (t + 1))).size = z at hcell hm
            have hzf : z ≤ f := by omega
            go_wp2_with fail
            go_round
            case rel => exact ⟨t + 1, by omega, by go_num⟩
            case measure => simp [intOf]; omega
          · obtain rfl : t = K := by omega
            by_cases htl : t < l.length
            · have htt : (Wal.text (l.take (t + 1))).size = (Wal.text (l.take (t + 1))).size := rfl
              obtain ⟨b, off, rfl, hcell⟩ := Ints.at' (l := Wb.ends l l.length) (k := t) (by rw [HEL.out]; exact hrow3) (by rw [HEL.out]; omega)
              rw [Wb.ends_at l htl] at hcell
              have hm := hgt htl
              clear htt
              generalize (Wal.text (l.take (t + 1))).size = z at hcell hm
              go_wp2_with fail
              clear hcell hm
              clear hgt
              refine (scan_as (s := (Wal.text l).extract 0 f) (by simp; omega) (m := l.take t) (k := (Wal.text (l.take t)).size) (by rw [HS3.out]; exact Wb.map_nums _) (by rw [HS3.out])).mono ?_
              rintro e w6 ⟨ao6, cap6, rfl, hin6, -, ho6⟩
              have hO6 := hq3.trans ho6
              have hrow6 := hrow3.keeps' ho6 (fun _ _ h => h)
              rw [HK.out]
              by_cases ht0 : t = 0
              · subst ht0
                have hz0 : (Wal.text (l.take 0)).size = 0 := rfl
                rw [hz0]
                clear hz0
                go_wp2_with fail
                refine (same_as (l := l.take 0) (m := l.take 0) hin6 ((hin5.keeps ho6 (fun _ _ h => h)).take 0) rfl rfl (b := true) (by simp)).mono ?_
                rintro e w7 ⟨rfl, q7, rfl⟩
                go_wp2_with fail
                go_ret
                exact ⟨rfl, (hO6.drewN q7).below (Nat.le_refl _) (fun _ h => h.elim)⟩
              · obtain ⟨u, rfl⟩ : ∃ u, t = u + 1 := ⟨t - 1, by omega⟩
                obtain ⟨b2, o2, e2, hcell⟩ := Ints.at' (l := Wb.ends l l.length) (k := u) (by rw [HEL.out]; exact hrow6) (by rw [HEL.out]; omega)
                cases e2
                rw [Wb.ends_at l (by omega)] at hcell
                generalize (Wal.text (l.take (u + 1))).size = z at hcell
                go_wp2_with fail
                refine (same_as (l := l.take (u + 1)) (m := l.take (u + 1)) hin6 ((hin5.keeps ho6 (fun _ _ h => h)).take (u + 1)) HK.out HK.out (b := true) (by simp)).mono ?_
                rintro e w7 ⟨rfl, q7, rfl⟩
                go_wp2_with fail
                go_ret
                exact ⟨rfl, (hO6.drewN q7).below (Nat.le_refl _) (fun _ h => h.elim)⟩
            · have htl2 : t = l.length := by omega
              have hlt2 : decide ((t : Int) < (l.length : Int)) = false := by simp; omega
              clear htl2
              go_wp2_with fail
              clear hlt2
              clear hgt
              refine (scan_as (s := (Wal.text l).extract 0 f) (by simp; omega) (m := l.take t) (k := (Wal.text (l.take t)).size) (by rw [HS3.out]; exact Wb.map_nums _) (by rw [HS3.out])).mono ?_
              rintro e w6 ⟨ao6, cap6, rfl, hin6, -, ho6⟩
              have hO6 := hq3.trans ho6
              have hrow6 := hrow3.keeps' ho6 (fun _ _ h => h)
              rw [HK.out]
              by_cases ht0 : t = 0
              · subst ht0
                have hz0 : (Wal.text (l.take 0)).size = 0 := rfl
                rw [hz0]
                clear hz0
                go_wp2_with fail
                refine (same_as (l := l.take 0) (m := l.take 0) hin6 ((hin5.keeps ho6 (fun _ _ h => h)).take 0) rfl rfl (b := true) (by simp)).mono ?_
                rintro e w7 ⟨rfl, q7, rfl⟩
                go_wp2_with fail
                go_ret
                exact ⟨rfl, (hO6.drewN q7).below (Nat.le_refl _) (fun _ h => h.elim)⟩
              · obtain ⟨u, rfl⟩ : ∃ u, t = u + 1 := ⟨t - 1, by omega⟩
                obtain ⟨b2, o2, e2, hcell⟩ := Ints.at' (l := Wb.ends l l.length) (k := u) (by rw [HEL.out]; exact hrow6) (by rw [HEL.out]; omega)
                cases e2
                rw [Wb.ends_at l (by omega)] at hcell
                generalize (Wal.text (l.take (u + 1))).size = z at hcell
                go_wp2_with fail
                refine (same_as (l := l.take (u + 1)) (m := l.take (u + 1)) hin6 ((hin5.keeps ho6 (fun _ _ h => h)).take (u + 1)) HK.out HK.out (b := true) (by simp)).mono ?_
                rintro e w7 ⟨rfl, q7, rfl⟩
                go_wp2_with fail
                go_ret
                exact ⟨rfl, (hO6.drewN q7).below (Nat.le_refl _) (fun _ h => h.elim)⟩

end Go.Proofs.Ytfmpmdkedpollaa
