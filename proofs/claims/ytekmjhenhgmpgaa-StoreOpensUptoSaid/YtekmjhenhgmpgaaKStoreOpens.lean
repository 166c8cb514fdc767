/- The statement StoreOpens: its walk and its frame. -/
import Derived.Test.YtekmjhenhgmpgaaMG
import Derived.Test.YtekmjhenhgmpgaaRows
import Derived.JoinedCond
import Derived.WalkKit
import Derived.ProofKit
import Derived.OpenShut
import Derived.ShutString
import Derived.ChangeOld
import Derived.Below

/- What a file says is opened as the document has it: the walk of the law (under way). -/
namespace Go.Proofs.Ytekmjhenhgmpgaa
open Go.RowKit
set_option maxRecDepth 100000

theorem disk_new (w : World) : Calls Try.prog 10 #[.int .i64 100000] w fun e w' => ∃ d mb, e = .returned (.tuple #[.pointer (some ⟨d, 0, none⟩), .int .i64 0]) ∧ DiskAt w' d mb (DM.new 100000) ∧ Only NoBlock w w' ∧ w.heap.size ≤ d ∧ w.heap.size ≤ mb ∧ d < w'.heap.size ∧ mb < w'.heap.size := by
  refine (new_ok w 100000 (by omega) (by omega)).mono ?_
  rintro e w' ⟨rfl, hd, ho, hs⟩
  exact ⟨_, _, rfl, hd, ho, by omega, by omega, by omega, by omega⟩
theorem ref_new (w : World) : Calls Try.prog 11 #[.int .i64 100000] w fun e w' => ∃ r, e = .returned (.tuple #[.pointer (some ⟨r, 0, none⟩), .int .i64 0]) ∧ RefAt w' r (DM.new 100000) ∧ Only NoBlock w w' ∧ w.heap.size ≤ r := by
  refine (rnew_ok w 100000 (by omega) (by omega)).mono ?_
  rintro e w' ⟨rfl, hd, ho⟩
  exact ⟨_, rfl, hd, ho, by omega⟩

set_option maxHeartbeats 4000000 in
theorem walk_Opens {w : World} (ao : Option Addr) (cap : Nat) (l : List ByteArray) (tail : ByteArray) (m : Nat) (hm : m < 18446744073709551616) (hl : StrsIn w ao l) (hll : l.length ≤ 1048576) (hx : ∀ b ∈ l, b.size ≤ 1048576) (ht : tail.size ≤ 1048576) :
    Calls Try.prog 3 #[.slice ao l.length cap, .string tail, .int .u64 m] w fun e w' => e = .returned (.bool true) ∧ Only NoBlock w w' := by
  go_enter Try.func3, Try.ntmps3
  go_wp2_with fail
  refine (begun8_ok w).mono ?_
  rintro e w1 ⟨rfl, ho1⟩
  go_wp2_with fail
  go_loopw [7, 8, 29] (fun u7 u8 u29 wr => ∃ (k z : Nat) (s : ByteArray), k ≤ l.length ∧ u29 = .int .i64 k ∧ u7 = .int .i64 z ∧ u8 = .string s ∧ z ≤ 3000000 * (k + 1) ∧ s.size ≤ 3000000 * k ∧ Only NoBlock w wr) (fun _ _ u29 _ => l.length - (intOf u29).toNat)
  case atStart => exact ⟨0, l.length + tail.size, ByteArray.empty, by omega, rfl, by go_num, rfl, by omega, by decide, ho1⟩
  case round =>
    obtain ⟨k, z, s, hk, rfl, rfl, rfl, hz, hs, hn⟩ := hrel
    by_cases hlt : k < l.length
    · obtain ⟨b, off, rfl, hcell⟩ := (hl.keeps hn (fun _ _ h => h)).at hlt
      have hd : (l.getD k ByteArray.empty).size ≤ 1048576 := by rw [List.getD_eq_getElem?_getD, List.getElem?_eq_getElem hlt]; exact hx _ (List.getElem_mem hlt)
      generalize l.getD k ByteArray.empty = x at hcell hd
      have hfl := Wal.frame_long (nums x)
      rw [nums_length] at hfl
      have hts := textOf_size (Wal.frame (nums x))
      have hfr : ∀ W, Calls Try.prog 9 #[.string x] W fun e w' => e = .returned (.string (textOf (Wal.frame (nums x)))) ∧ Only NoBlock W w' := fun W => rframe_at W x (by omega)
      generalize textOf (Wal.frame (nums x)) = f at hts hfr
      rw [← hts] at hfl
      clear hts
      have hcat : (9223372036854775807 < s.size + f.size) = False := by simp; omega
      by_cases hg : 20000 < z + x.size
      · have hg2 : decide ((20000 : Int) < (z : Int) + (x.size : Int)) = true := by simp; omega
        go_wp2_with fail
        go_ret
        exact ⟨rfl, hn⟩
      · have hg2 : decide ((20000 : Int) < (z : Int) + (x.size : Int)) = false := by simp; omega
        go_wp2_with fail
        refine (hfr _).mono ?_
        rintro e w2 ⟨rfl, ho2⟩
        go_wp2_with fail
        go_roundw
        case rel => exact ⟨k + 1, z + x.size, _, by omega, by go_num, by go_num, rfl, by omega, by rw [ByteArray.size_append]; omega, hn.trans ho2⟩
        case measure => simp [intOf]; omega
    · obtain rfl : k = l.length := by omega
      go_wp2_with fail
      refine (disk_new _).mono ?_
      rintro e w2 ⟨d, mb, rfl, hd2, ho2, hdl, hml, hdl2, hml2⟩
      have hn2 := hn.trans ho2
      have hz2 := hn.size
      have hDl : w.heap.size ≤ d := by omega
      have hMl : w.heap.size ≤ mb := by omega
      clear hn hz2 ho2 hdl hml
      go_wp2_with fail
      refine (ref_new w2).mono ?_
      rintro e w3 ⟨r, rfl, hr3, ho3, hrl⟩
      have hd3 := hd2.keeps ho3 (fun h => h) (fun h => h)
      have hn3 := hn2.trans ho3
      have hz2 := hn2.size
      have hrd : r ≠ d ∧ r ≠ mb := by omega
      have hRl : w.heap.size ≤ r := by omega
      clear ho3 hn2 hz2 hd2 hrl hdl2 hml2
      have hT : (s ++ tail).size ≤ 4000000000000 := by rw [ByteArray.size_append]; omega
      have hcat : (9223372036854775807 < s.size + tail.size) = False := by simp; omega
      go_wp2_with fail
      refine (replace_at w3 d mb (DM.new 100000) 0 (s ++ tail) hd3 (by decide) (by omega)).mono ?_
      rintro e w4 ⟨rfl, hd4, ho4⟩
      have hr4 := hr3.keeps ho4 (by rintro (e | e) <;> omega)
      have hn4 : Only NoBlock w w4 := hn3.andThen ho4 (by rintro i hi (e | e) <;> omega)
      clear hn3 ho4 hd3 hr3
      go_wp2_with fail
      refine (rreplace_at w4 r (DM.new 100000) 0 (s ++ tail) hr4 (by omega)).mono ?_
      rintro e w5 ⟨rfl, hr5, ho5⟩
      have hd5 := hd4.keeps ho5 (by omega) (by omega)
      have hn5 : Only NoBlock w w5 := hn4.andThen ho5 (by rintro i hi e; omega)
      clear hn4 ho5 hd4 hr4 hT hcat
      generalize (DM.new 100000).replace 0 (s ++ tail) = M at hr5 hd5
      have hok := hd5.ok
      have hlen := Sto.open_len hok 0
      go_wp2_with fail
      refine (storeopen_at w5 d mb M 0 m hd5 (by decide) hm (fun b hb => Nat.le_trans (Wal.recs_short _ b hb) (by decide)) (by omega)).mono ?_
      rintro e w6 ⟨pt, x, rfl, hd6, ho6, hE6⟩
      have hr6 := hr5.keeps ho6 (by rintro (e | e) <;> omega)
      have hn6 : Only NoBlock w w6 := hn5.andThen ho6 (by rintro i hi (e | e) <;> omega)
      rcases hE6 with ⟨h0, t, g, st, hs6, rfl, htl, hL6, hS6, hV6⟩ | ⟨h0, rfl, rfl⟩
      · obtain ⟨v6, rfl, hv6⟩ := hV6
        obtain ⟨ao6, cap6, rfl⟩ := hv6.shape
        have hle := Sto.said_len _ _ _ hs6
        have hes0 : st.es.length ≤ 1000000000000 := by have : (Sto.first m).es.length = 0 := rfl; omega
        have HS := Lib.hid hs6
        clear hs6 hle
        obtain ⟨⟨ht, hv⟩, ⟨si, sj, sc, sd⟩, es⟩ := st
        unfold stCells at *
        simp only at hes0 ⊢
        rw [h0]
        have H0 := Lib.hid h0
        clear h0
        have hA := (Only.refl NoBlock w6).alloc (Obj.cells #[.int .u64 ht, .int .i64 hv, .int .u64 si, .int .u64 sj, .int .u64 sc, .string sd, .slice ao6 es.length cap6] 42); have hb7 := Blk.made w6 #[.int .u64 ht, .int .i64 hv, .int .u64 si, .int .u64 sj, .int .u64 sc, .string sd, .slice ao6 es.length cap6] 42
        have hz6 := hn6.size
        have hrl := hr6.lt
        have hr5l := hr5.lt
        have hz7 : w6.heap.size < (w6.alloc (Obj.cells #[.int .u64 ht, .int .i64 hv, .int .u64 si, .int .u64 sj, .int .u64 sc, .string sd, .slice ao6 es.length cap6] 42)).heap.size := by simp
        go_upto_region 18 with fail
        generalize w6.alloc (Obj.cells #[.int .u64 ht, .int .i64 hv, .int .u64 si, .int .u64 sj, .int .u64 sc, .string sd, .slice ao6 es.length cap6] 42) = w7 at hA hb7 hz7 ⊢
        generalize w6.heap.size = P at hb7 hz6 hz7 hrl ⊢
        have hn7 := hn6.trans hA
        have hr7 := hr6.keeps hA (fun h => h)
        have hv7 := hv6.keeps hA (fun _ _ h => h)
        have hS7 : StoreAt w7 w5.heap.size t g ⟨⟨ht, hv⟩, ⟨si, sj, sc, sd⟩, es⟩ := hS6.keeps hA (fun h => h) (fun _ _ h => h)
        clear hA hn6 hr6 hv6 hS6 hL6 hd6 ho6 hd5 hr5
        go_wp2_with fail
        refine (ropen8_at w7 r M 0 m hr7 hok hm).mono ?_
        rintro e w8 ⟨pt, rfl, -, ho8, hE8⟩
        rcases hE8 with ⟨-, u, gu, s8, hs8, rfl, hul, -, hS8⟩ | ⟨h0, -⟩
        rotate_left
        · exact absurd H0.out h0
        rw [HS.out] at hs8
        obtain rfl := Option.some.inj hs8
        rw [H0.out]
        obtain ⟨-, -, ao8, cap8, hu8, hl8⟩ := hS8
        simp only at hu8 hl8
        have hrP : ¬ P = r := by omega
        have hb8 := hb7.keeps ho8 hrP
        have hS8' : StoreAt w8 w5.heap.size t g ⟨⟨ht, hv⟩, ⟨si, sj, sc, sd⟩, es⟩ := hS7.keeps ho8 (show ¬ t = r by omega) (fun k hk => show ¬ k = r by omega)
        have hv8 : EntsIn w8 ao6 es := ((hv7.keeps ho8 (fun k hk => show ¬ k = r by have := (World.ownsRow.lt hv7.1 k hk).1; omega)).read (by omega)).1
        have hn8 : Only NoBlock w w8 := hn7.andThen ho8 (by rintro i hi e; omega)
        clear hs8 ho8 hS7 hv7 hb7 hn7 hr7
        have hsame : ∀ W, Only NoBlock w8 W → Calls Try.prog 16 #[.agg #[.int .u64 ht, .int .i64 hv, .int .u64 si, .int .u64 sj, .int .u64 sc, .string sd, .slice ao6 es.length cap6], .agg #[.int .u64 ht, .int .i64 hv, .int .u64 si, .int .u64 sj, .int .u64 sc, .string sd, .slice ao8 es.length cap8]] W fun e w' => e = .returned (.bool true) ∧ Only NoBlock w8 w' := fun W hW => (same8_at W ⟨⟨ht, hv⟩, ⟨si, sj, sc, sd⟩, es⟩ ⟨⟨ht, hv⟩, ⟨si, sj, sc, sd⟩, es⟩ ao6 ao8 cap6 cap8 (hv8.keeps hW (fun _ _ h => h)) (hl8.keeps hW (fun _ _ h => h)) hes0 hes0).mono fun e w' ⟨he, ho⟩ => ⟨by rw [he]; simp, hW.trans ho⟩
        have hstate : ∀ W, Only NoBlock w8 W → Calls Try.prog 17 #[.pointer (some ⟨t, 0, none⟩)] W fun e w' => ∃ ao9 cap9, e = .returned (.agg #[.int .u64 ht, .int .i64 hv, .int .u64 si, .int .u64 sj, .int .u64 sc, .string sd, .slice ao9 es.length cap9]) ∧ EntsIn w' ao9 es ∧ Only NoBlock w8 w' := fun W hW => (state_at W w5.heap.size t g _ (hS8'.keeps hW (fun h => h) (fun _ _ h => h)) hes0).mono fun e w' ⟨x, he, ⟨v, hv, hE⟩, ho⟩ => by
          obtain ⟨ao9, cap9, rfl⟩ := hE.shape
          exact ⟨ao9, cap9, by rw [he, hv]; rfl, (hE.read (by simp only; omega)).1, hW.trans ho⟩
        have hsame2 : ∀ W ao9 cap9, EntsIn W ao9 es → Only NoBlock w8 W → Calls Try.prog 16 #[.agg #[.int .u64 ht, .int .i64 hv, .int .u64 si, .int .u64 sj, .int .u64 sc, .string sd, .slice ao9 es.length cap9], .agg #[.int .u64 ht, .int .i64 hv, .int .u64 si, .int .u64 sj, .int .u64 sc, .string sd, .slice ao8 es.length cap8]] W fun e w' => e = .returned (.bool true) ∧ Only NoBlock w8 w' := fun W ao9 cap9 h9 hW => (same8_at W ⟨⟨ht, hv⟩, ⟨si, sj, sc, sd⟩, es⟩ ⟨⟨ht, hv⟩, ⟨si, sj, sc, sd⟩, es⟩ ao9 ao8 cap9 cap8 h9 (hl8.keeps hW (fun _ _ h => h)) hes0 hes0).mono fun e w' ⟨he, ho⟩ => ⟨by rw [he]; simp, hW.trans ho⟩
        have c0 : w8.cell? ⟨P, 0, none⟩ = some (.int .u64 ht) := by rw [hb8.cell]; rfl
        have c1 : w8.cell? ⟨P, 1, none⟩ = some (.int .i64 hv) := by rw [hb8.cell]; rfl
        have c2 : w8.cell? ⟨P, 2, none⟩ = some (.int .u64 si) := by rw [hb8.cell]; rfl
        have c3 : w8.cell? ⟨P, 3, none⟩ = some (.int .u64 sj) := by rw [hb8.cell]; rfl
        have c4 : w8.cell? ⟨P, 4, none⟩ = some (.int .u64 sc) := by rw [hb8.cell]; rfl
        have c5 : w8.cell? ⟨P, 5, none⟩ = some (.string sd) := by rw [hb8.cell]; rfl
        have c6 : w8.cell? ⟨P, 6, none⟩ = some (.slice ao6 es.length cap6) := by rw [hb8.cell]; rfl
        have d1 : w8.cell? ⟨u, 1, none⟩ = some (.int .u64 ht) := by rw [hu8.cell]; rfl
        have d2 : w8.cell? ⟨u, 2, none⟩ = some (.int .i64 hv) := by rw [hu8.cell]; rfl
        have d3 : w8.cell? ⟨u, 3, none⟩ = some (.int .u64 si) := by rw [hu8.cell]; rfl
        have d4 : w8.cell? ⟨u, 4, none⟩ = some (.int .u64 sj) := by rw [hu8.cell]; rfl
        have d5 : w8.cell? ⟨u, 5, none⟩ = some (.int .u64 sc) := by rw [hu8.cell]; rfl
        have d6 : w8.cell? ⟨u, 6, none⟩ = some (.string sd) := by rw [hu8.cell]; rfl
        have d7 : w8.cell? ⟨u, 7, none⟩ = some (.slice ao8 es.length cap8) := by rw [hu8.cell]; rfl
        have hO0 : Only NoBlock w8 w8 := Only.refl _ _
        have hO1 : Only NoBlock w8 w8.drew := hO0.drew
        have hv8d := hv8.keeps hO1 (fun _ _ h => h)
        clear hsame
        go_wp2_with fail
        go_region_held3 (fun w' => w'.cell? ⟨P, 0, none⟩ = some (.int .u64 ht) ∧ w'.cell? ⟨P, 1, none⟩ = some (.int .i64 hv) ∧ w'.cell? ⟨P, 2, none⟩ = some (.int .u64 si) ∧ w'.cell? ⟨P, 3, none⟩ = some (.int .u64 sj) ∧ w'.cell? ⟨P, 4, none⟩ = some (.int .u64 sc) ∧ w'.cell? ⟨P, 5, none⟩ = some (.string sd) ∧ w'.cell? ⟨P, 6, none⟩ = some (.slice ao6 es.length cap6) ∧ w'.cell? ⟨u, 1, none⟩ = some (.int .u64 ht) ∧ w'.cell? ⟨u, 2, none⟩ = some (.int .i64 hv) ∧ w'.cell? ⟨u, 3, none⟩ = some (.int .u64 si) ∧ w'.cell? ⟨u, 4, none⟩ = some (.int .u64 sj) ∧ w'.cell? ⟨u, 5, none⟩ = some (.int .u64 sc) ∧ w'.cell? ⟨u, 6, none⟩ = some (.string sd) ∧ w'.cell? ⟨u, 7, none⟩ = some (.slice ao8 es.length cap8))
          (first | with_reducible exact ⟨c0, c1, c2, c3, c4, c5, c6, d1, d2, d3, d4, d5, d6, d7⟩ | go_keep)
          (first
           | (go_at_call 16; refine (hsame2 _ _ _ (by first | with_reducible exact hl10 | with_reducible exact hv8d) (by first | with_reducible exact hO10 | with_reducible exact hO1)).mono ?_; rintro e w9 ⟨rfl, hO9⟩; have hp9 := hb8.keeps hO9 (fun h => h); have hu9 := hu8.keeps hO9 (fun h => h)
              have c0 : w9.cell? ⟨P, 0, none⟩ = some (.int .u64 ht) := by rw [hp9.cell]; rfl
              have c1 : w9.cell? ⟨P, 1, none⟩ = some (.int .i64 hv) := by rw [hp9.cell]; rfl
              have c2 : w9.cell? ⟨P, 2, none⟩ = some (.int .u64 si) := by rw [hp9.cell]; rfl
              have c3 : w9.cell? ⟨P, 3, none⟩ = some (.int .u64 sj) := by rw [hp9.cell]; rfl
              have c4 : w9.cell? ⟨P, 4, none⟩ = some (.int .u64 sc) := by rw [hp9.cell]; rfl
              have c5 : w9.cell? ⟨P, 5, none⟩ = some (.string sd) := by rw [hp9.cell]; rfl
              have c6 : w9.cell? ⟨P, 6, none⟩ = some (.slice ao6 es.length cap6) := by rw [hp9.cell]; rfl
              have d1 : w9.cell? ⟨u, 1, none⟩ = some (.int .u64 ht) := by rw [hu9.cell]; rfl
              have d2 : w9.cell? ⟨u, 2, none⟩ = some (.int .i64 hv) := by rw [hu9.cell]; rfl
              have d3 : w9.cell? ⟨u, 3, none⟩ = some (.int .u64 si) := by rw [hu9.cell]; rfl
              have d4 : w9.cell? ⟨u, 4, none⟩ = some (.int .u64 sj) := by rw [hu9.cell]; rfl
              have d5 : w9.cell? ⟨u, 5, none⟩ = some (.int .u64 sc) := by rw [hu9.cell]; rfl
              have d6 : w9.cell? ⟨u, 6, none⟩ = some (.string sd) := by rw [hu9.cell]; rfl
              have d7 : w9.cell? ⟨u, 7, none⟩ = some (.slice ao8 es.length cap8) := by rw [hu9.cell]; rfl)
           | (go_at_call 17; refine (hstate _ (by with_reducible exact hO9)).mono ?_; rintro e w10 ⟨ao9, cap9, rfl, hl10, hO10⟩; have hp10 := hb8.keeps hO10 (fun h => h); have hu10 := hu8.keeps hO10 (fun h => h)
              have c0 : w10.cell? ⟨P, 0, none⟩ = some (.int .u64 ht) := by rw [hp10.cell]; rfl
              have c1 : w10.cell? ⟨P, 1, none⟩ = some (.int .i64 hv) := by rw [hp10.cell]; rfl
              have c2 : w10.cell? ⟨P, 2, none⟩ = some (.int .u64 si) := by rw [hp10.cell]; rfl
              have c3 : w10.cell? ⟨P, 3, none⟩ = some (.int .u64 sj) := by rw [hp10.cell]; rfl
              have c4 : w10.cell? ⟨P, 4, none⟩ = some (.int .u64 sc) := by rw [hp10.cell]; rfl
              have c5 : w10.cell? ⟨P, 5, none⟩ = some (.string sd) := by rw [hp10.cell]; rfl
              have c6 : w10.cell? ⟨P, 6, none⟩ = some (.slice ao6 es.length cap6) := by rw [hp10.cell]; rfl
              have d1 : w10.cell? ⟨u, 1, none⟩ = some (.int .u64 ht) := by rw [hu10.cell]; rfl
              have d2 : w10.cell? ⟨u, 2, none⟩ = some (.int .i64 hv) := by rw [hu10.cell]; rfl
              have d3 : w10.cell? ⟨u, 3, none⟩ = some (.int .u64 si) := by rw [hu10.cell]; rfl
              have d4 : w10.cell? ⟨u, 4, none⟩ = some (.int .u64 sj) := by rw [hu10.cell]; rfl
              have d5 : w10.cell? ⟨u, 5, none⟩ = some (.int .u64 sc) := by rw [hu10.cell]; rfl
              have d6 : w10.cell? ⟨u, 6, none⟩ = some (.string sd) := by rw [hu10.cell]; rfl
              have d7 : w10.cell? ⟨u, 7, none⟩ = some (.slice ao8 es.length cap8) := by rw [hu10.cell]; rfl))
        go_wp2_with fail
        go_ret
        exact ⟨rfl, hn8.trans hO9⟩
      · have hA := (Only.refl NoBlock w6).alloc (Obj.cells #[.int .u64 0, .int .i64 0, .int .u64 0, .int .u64 0, .int .u64 0, .string { data := #[] }, .slice none 0 0] 42)
        have H0 := Lib.hid h0
        unfold noState
        go_upto_region 18 with fail
        generalize w6.alloc (Obj.cells #[.int .u64 0, .int .i64 0, .int .u64 0, .int .u64 0, .int .u64 0, .string { data := #[] }, .slice none 0 0] 42) = w7 at hA ⊢
        have hn7 := hn6.trans hA
        have hr7 := hr6.keeps hA (fun h => h)
        have hrl := hr6.lt
        clear hn6 hr6 hA h0
        have hd0 : (Sto.openE M 0 m != 0) = true := by simpa using H0.out
        have hq : RowKit.Hid (∀ W, RefAt W r M → Calls Try.prog 15 #[.pointer (some ⟨r, 0, none⟩), .int .i64 0, .int .u64 m] W fun e w' => e = .returned (.tuple #[.pointer none, .int .i64 (Sto.openE M 0 m)]) ∧ Only (fun k => k = r) W w') := Lib.hid (fun W hW => (ropen8_at W r M 0 m hW hok hm).mono fun e w' ⟨pt, he, _, ho, hE⟩ => by
          rcases hE with ⟨h0, _⟩ | ⟨_, rfl⟩
          · exact absurd h0 H0.out
          · exact ⟨he, ho⟩)
        generalize Sto.openE M 0 m = k at *
        go_wp2_with fail
        refine (hq.out w7 hr7).mono ?_
        rintro e w8 ⟨rfl, ho8⟩
        have hn8 : Only NoBlock w w8 := hn7.andThen ho8 (by rintro i hi e; omega)
        clear hq
        go_wp2_with fail
        go_ret
        exact ⟨by simp, hn8⟩
theorem walk_StoreOpens {w : World} (x : List ByteArray × Option Addr × Nat) (hx : StrsIn w x.2.1 x.1 ∧ x.1.length ≤ 1048576 ∧ ∀ b ∈ x.1, b.size ≤ 1048576) (t : ByteArray) (ht : t.size ≤ 1048576) (m : Int) (hm : (Lit.int .u64 m).wf = true) :
    Calls Try.prog 3 #[.slice x.2.1 x.1.length x.2.2, .string t, .int .u64 m] w fun e w' => e = .returned (.bool true) ∧ Below w.heap.size w w' := by
  obtain ⟨n, rfl, hn⟩ := O8.nat_of_wf hm
  exact (walk_Opens x.2.1 x.2.2 x.1 t n hn hx.1 hx.2.1 hx.2.2 ht).mono fun e w' ⟨he, ho⟩ => ⟨he, ho.below (Nat.le_refl _) (fun _ h => h.elim)⟩
end Go.Proofs.Ytekmjhenhgmpgaa

/- The statement StoreOpens: for every input the law returns true, and each argument reads afterwards as before. Frame of the walk in LawStoreOpens. -/
namespace Go.Proofs.Ytekmjhenhgmpgaa.storeOpens
open Go.ChangeShapes Go.WideShapes Go.ChangeAt Go.RowKit
open Go.ChangeMaps (open_string shut_string)
set_option linter.unusedVariables false

theorem own : ownKnob Try.prog.godebug = none := by kernel_rfl
theorem laidOut : laidOutB Try.prog = true := by kernel_rfl
theorem u2 : Try.prog.underlying 23 = some (.int .u64) := by kernel_rfl
theorem ub : Try.prog.underlying 4 = some .bool := by kernel_rfl

set_option maxRecDepth 100000 in
theorem lifted (os : Os) (started : os.Started) (H : Type) (enc : TypeId × Value → H) (F : Stop.Interp) :
    ReturnsInHanded {} Try.checked os 3 .any ((Rows.OpenSpec.upto Rows.storeOpensSpec).pre6 enc Try.prog Try.f3 Rows.storeOpensUptoRow.domain false) (((Rows.OpenSpec.upto Rows.storeOpensSpec).at F).post enc Try.prog Try.f3 false true false false) := by
  refine returnsInHanded_of_cond (C := Try.checked) (s := Rows.OpenSpec.upto Rows.storeOpensSpec) (k := Rows.uptoSmall) rfl own started (by kernel_rfl) Try.func3
    (OpenSpec.witness (enc := enc) (C := Try.checked) (s := Rows.OpenSpec.upto Rows.storeOpensSpec) (k := Rows.uptoSmall) rfl false ⟨#[], #[.slice none 0 0, .string ByteArray.empty, .int .u64 0], []⟩ 8 (by kernel_rfl) (by kernel_rfl) (by kernel_rfl)
      (x := ([.nil, .lit (.string []), .lit (.int .u64 0)], [], [])) (by kernel_rfl) rfl (by kernel_rfl)) ?_
  intro W base args ds gs before hval0 hW hcnd hk0 _
  show Calls Try.prog 3 args W fun e W' => ∃ v, e = .returned v ∧ Rows.storeOpensSpec.post enc Try.prog Try.f3 false true false false W args v W'
  have hk : Rows.uptoBulkAll (ds ++ gs) ≤ 1048576 := of_decide_eq_true hk0
  have hval : ∀ (j : Nat) t v, Try.f3.params[j]? = some t → args[j]? = some v → Value.okWide Try.prog W .any base t v := hval0
  have hW' := hW
  obtain ⟨p, q, hA0, hV, rfl, hfz, hnd⟩ := hW
  have hA : DataW.TrodAll enc Try.prog W 0 (fun _ => true) true Try.f3.params.toList args.toList ds p := hA0
  rw [Try.params3] at hA hval
  obtain ⟨v0, vs0, d0, ds0, p0, q0, hargs, rfl, rfl, h0, r0⟩ := trodAll_cons hA
  obtain ⟨v1, vs1, d1, ds1, p1, q1, rfl, rfl, rfl, h1, r1⟩ := trodAll_cons r0
  obtain ⟨v2, vs2, d2, ds2, p2, q2, rfl, rfl, rfl, h2, r2⟩ := trodAll_cons r1
  obtain ⟨rfl, rfl, rfl⟩ := trodAll_nil r2
  obtain rfl : args = #[v0, v1, v2] := by cases args; simp_all
  obtain ⟨rfl, rfl⟩ := trodVars_none hV
  have k0 := h0
  have lt0 : ∀ x ∈ p0, x.block < W.heap.size := by obtain ⟨m, hm⟩ := k0; exact DataW.trod_lt m _ _ _ hm
  have k1 := h1
  have lt1 : ∀ x ∈ p1, x.block < W.heap.size := by obtain ⟨m, hm⟩ := k1; exact DataW.trod_lt m _ _ _ hm
  have k2 := h2
  have lt2 : ∀ x ∈ p2, x.block < W.heap.size := by obtain ⟨m, hm⟩ := k2; exact DataW.trod_lt m _ _ _ hm
  simp only [Rows.uptoBulkAll, List.cons_append, List.nil_append, List.append_nil] at hk
  have b0 : Rows.uptoBulk d0 ≤ 1048576 := by omega
  have b1 : Rows.uptoBulk d1 ≤ 1048576 := by omega
  have b2 : Rows.uptoBulk d2 ≤ 1048576 := by omega
  clear hk
  obtain ⟨a0, rfl, w0⟩ := open_texts_b (hval 0 22 v0 rfl rfl) h0 b0
  obtain ⟨a1, rfl, w1⟩ := open_str_b (hval 1 9 v1 rfl rfl) h1 b1
  obtain ⟨a2, rfl, rfl, rfl, w2⟩ := open_int u2 (hval 2 23 v2 rfl rfl) h2
  clear hA0 hval0
  refine (walk_StoreOpens (w := W) a0 w0 a1 w1 a2 w2).mono fun e W' ⟨he, bel⟩ => ?_
  subst he
  exact ⟨_, rfl, _, _, _, [], _, [], hW', trodAll_mk1 (shut_bool ub _), (trodAll_cons_mk (Below.trod laidOut (by kernel_rfl) (of_decide_eq_true (by kernel_rfl)) k0 bel lt0) (trodAll_cons_mk (Below.trod laidOut (by kernel_rfl) (of_decide_eq_true (by kernel_rfl)) k1 bel lt1) (trodAll_cons_mk (Below.trod laidOut (by kernel_rfl) (of_decide_eq_true (by kernel_rfl)) k2 bel lt2) trodAll_mk0))), rfl, bel.frame _, fun h => by cases h⟩

theorem proved : Rows.StoreOpensUptoSaid :=
  OpenClaim.holds_of_cond 3 Try.f3 rfl rfl rfl rfl rfl rfl rfl ⟨rfl, rfl, rfl, rfl, rfl⟩ rfl rfl rfl rfl rfl (by kernel_rfl) Try.func3 (by kernel_rfl)
    (of_decide_eq_true (by kernel_rfl)) (by unfold Func.isWrapper; first | (rw [if_pos (by decide +kernel)]; kernel_rfl) | (rw [if_neg (by decide +kernel)]; exact ⟨rfl, rfl⟩))
    (fun os started H enc _ F => lifted os started H enc F)
#print axioms proved
end Go.Proofs.Ytekmjhenhgmpgaa.storeOpens
