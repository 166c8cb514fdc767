/- A store that is none keeps nothing; members that are none are refused: the walk of the law. -/
import Derived.Test.YtekmjhenhgmpgaaBegun8W
import Derived.Test.YtekmjhenhgmpgaaOpen8
namespace Go.Proofs.Ytekmjhenhgmpgaa
open Go.RowKit
set_option maxRecDepth 100000

namespace Sn
theorem wal_in : ∀ n : Fin 16, Wal.openE (DM.new 100) ((n : Nat) : Int) = 0 ∧ Wal.openL (DM.new 100) ((n : Nat) : Int) = [] := by decide +kernel
theorem open_ok {n : Int} {m : Nat} (h0 : 0 ≤ n) (h1 : n < 16) (m0 : 0 < m) (m1 : m < 128) : Sto.openE (DM.new 100) n m = 0 ∧ Sto.said (Sto.first m) (Wal.openL (DM.new 100) n) = some (Sto.first m) := by
  obtain ⟨k, rfl⟩ := Int.eq_ofNat_of_zero_le h0
  obtain ⟨e1, e2⟩ := wal_in ⟨k, by omega⟩
  simp only at e1 e2
  have hs : Qu.soundB m = true := by unfold Qu.soundB; simpa using ⟨m0, m1⟩
  refine ⟨?_, by rw [e2]; rfl⟩
  unfold Sto.openE
  rw [if_neg (by rw [hs]; decide), if_neg (by simpa using e1), e2]
  show (if rightB (Sto.first m).hard (Sto.first m).snap (Sto.first m).es = true then (0 : Int) else 2) = 0
  rw [if_pos]
  unfold rightB Rl.newOk Rl.chain
  show (Qu.soundB m && true && (decide ((-1 : Int) ≤ -1) && decide ((-1 : Int) < 7))) = true
  rw [hs]; decide
theorem open_m {M : DM} {n : Int} {m : Nat} (h : m = 0 ∨ 127 < m) : Sto.openE M n m = 1 := by
  have hs : Qu.soundB m = false := by unfold Qu.soundB; simp; omega
  unfold Sto.openE
  rw [if_pos hs]
theorem open_n {M : DM} {n : Int} {m : Nat} (m0 : 0 < m) (m1 : m < 128) (h : n < 0 ∨ 16 ≤ n) : Sto.openE M n m = 1 := by
  have hs : Qu.soundB m = true := by unfold Qu.soundB; simpa using ⟨m0, m1⟩
  have hw : Wal.openE M n = 1 := by unfold Wal.openE; rw [if_pos h]
  unfold Sto.openE
  rw [if_neg (by rw [hs]; decide), if_pos (by rw [hw]; decide), hw]
end Sn
def zeroSt : St := ⟨⟨0, 0⟩, ⟨0, 0, 0, ByteArray.empty⟩, []⟩
theorem same_zero (w : World) : Calls Try.prog 16 #[noState, noState] w fun e w' => e = .returned (.bool true) ∧ Only NoBlock w w' :=
  (same8_at w zeroSt zeroSt none none 0 0 (EntsIn.nil _ _) (EntsIn.nil _ _) (by decide) (by decide)).mono fun e w' ⟨he, ho⟩ => ⟨he, ho⟩

set_option maxHeartbeats 4000000 in
theorem walk_None {w : World} (ht : Nat) (hv : Int) (m : Nat) (hm : m < 18446744073709551616) (n : Int) (hn : (Lit.int .i64 n).wf = true) :
    Calls Try.prog 7 #[.agg #[.int .u64 ht, .int .i64 hv], .int .u64 m, .int .i64 n] w fun e w' => e = .returned (.bool true) ∧ Only NoBlock w w' := by
  have hbx := Blk.made w #[.int .u64 ht, .int .i64 hv] 37
  have hnx := (Only.refl NoBlock w).alloc (Obj.cells #[.int .u64 ht, .int .i64 hv] 37)
  go_enter Try.func7, Try.ntmps7
  go_upto_region 1 with fail
  have hBxl : w.heap.size < (w.alloc (Obj.cells #[.int .u64 ht, .int .i64 hv] 37)).heap.size := by simp
  generalize w.heap.size = X at hbx hBxl ⊢
  generalize w.alloc (Obj.cells #[.int .u64 ht, .int .i64 hv] 37) = w1 at hbx hnx hBxl ⊢
  go_wp2_with fail
  refine (begun8_ok w1).mono ?_
  rintro e w2 ⟨rfl, ho2⟩
  have hb2 := hbx.keeps ho2 (fun h => h)
  have hn2 := hnx.trans ho2
  clear hbx hnx ho2
  go_wp2_with fail
  refine (new_ok w2 100 (by omega) (by omega)).mono ?_
  rintro e w3 ⟨rfl, hd3, ho3, hs3⟩
  have hb3 := hb2.keeps ho3 (fun h => h)
  have hn3 := hn2.trans ho3
  have hX := hb2.lt
  have hz2 := hn2.size
  clear hb2 hn2 ho3 hs3 hBxl
  generalize hd : w2.heap.size + 1 = d at hd3 ⊢
  generalize hmb : w2.heap.size = mb at hd3 hd hX hz2 ⊢
  by_cases m0 : m = 0
  · subst m0; go_wp2_with fail
    refine (sopen_no hd3 hn hm (Sn.open_m (.inl rfl)) (by decide) rfl).mono ?_
    rintro e w4 ⟨rfl, hd4, ho4⟩
    have hn4 : Only NoBlock w w4 := hn3.andThen ho4 (by rintro i hi (e | e) <;> omega)
    have hb4 := hb3.keeps ho4 (by rintro (e | e) <;> omega)
    have x0 : w4.cell? ⟨X, 0, none⟩ = some (.int .u64 ht) := by rw [hb4.cell]; rfl
    have x1 : w4.cell? ⟨X, 1, none⟩ = some (.int .i64 hv) := by rw [hb4.cell]; rfl
    clear hb3 hn3 ho4 hd3
    unfold noState
    have HC := Lib.hid hb4
    go_upto_region 6 with fail
    have hA := (Only.refl NoBlock w4).alloc (Obj.cells #[.int .u64 0, .int .i64 0, .int .u64 0, .int .u64 0, .int .u64 0, .string { data := #[] }, .slice none 0 0] 42); have hb5 := Blk.made w4 #[.int .u64 0, .int .i64 0, .int .u64 0, .int .u64 0, .int .u64 0, .string { data := #[] }, .slice none 0 0] 42
    generalize w4.heap.size = P at hb5 ⊢
    generalize w4.alloc (Obj.cells #[.int .u64 0, .int .i64 0, .int .u64 0, .int .u64 0, .int .u64 0, .string { data := #[] }, .slice none 0 0] 42) = w5 at hA hb5 ⊢
    have hb6 := hb4.keeps hA (fun h => h)
    have hn5 := hn4.trans hA
    have x0 : w5.cell? ⟨X, 0, none⟩ = some (.int .u64 ht) := by rw [hb6.cell]; rfl
    have x1 : w5.cell? ⟨X, 1, none⟩ = some (.int .i64 hv) := by rw [hb6.cell]; rfl
    go_wp2_with fail
    refine (save_nil w5 ht hv _).mono ?_
    rintro e w6 ⟨rfl, ho6⟩
    go_wp2_with fail
    refine (anew_nil8 w6).mono ?_
    rintro e w7 ⟨rfl, ho7⟩
    go_wp2_with fail
    refine (state_nil8 w7).mono ?_
    rintro e w8 ⟨rfl, ho8⟩
    go_wp2_with fail
    refine (same_zero w8).mono ?_
    rintro e w9 ⟨rfl, ho9⟩
    go_wp2_with fail
    go_ret
    exact ⟨rfl, (((hn5.trans ho6).trans ho7).trans ho8).trans ho9⟩
  · have m0' : ((m : Int) == 0) = false := by simp; omega
    by_cases m1 : 127 < m
    · go_wp2_with fail
      refine (sopen_no hd3 hn hm (Sn.open_m (.inr m1)) (by decide) rfl).mono ?_
      rintro e w4 ⟨rfl, hd4, ho4⟩
      have hn4 : Only NoBlock w w4 := hn3.andThen ho4 (by rintro i hi (e | e) <;> omega)
      have hb4 := hb3.keeps ho4 (by rintro (e | e) <;> omega)
      have x0 : w4.cell? ⟨X, 0, none⟩ = some (.int .u64 ht) := by rw [hb4.cell]; rfl
      have x1 : w4.cell? ⟨X, 1, none⟩ = some (.int .i64 hv) := by rw [hb4.cell]; rfl
      clear hb3 hn3 ho4 hd3
      unfold noState
      have HC := Lib.hid hb4
      go_upto_region 6 with fail
      have hA := (Only.refl NoBlock w4).alloc (Obj.cells #[.int .u64 0, .int .i64 0, .int .u64 0, .int .u64 0, .int .u64 0, .string { data := #[] }, .slice none 0 0] 42); have hb5 := Blk.made w4 #[.int .u64 0, .int .i64 0, .int .u64 0, .int .u64 0, .int .u64 0, .string { data := #[] }, .slice none 0 0] 42
      generalize w4.heap.size = P at hb5 ⊢
      generalize w4.alloc (Obj.cells #[.int .u64 0, .int .i64 0, .int .u64 0, .int .u64 0, .int .u64 0, .string { data := #[] }, .slice none 0 0] 42) = w5 at hA hb5 ⊢
      have hb6 := hb4.keeps hA (fun h => h)
      have hn5 := hn4.trans hA
      have x0 : w5.cell? ⟨X, 0, none⟩ = some (.int .u64 ht) := by rw [hb6.cell]; rfl
      have x1 : w5.cell? ⟨X, 1, none⟩ = some (.int .i64 hv) := by rw [hb6.cell]; rfl
      go_wp2_with fail
      refine (save_nil w5 ht hv _).mono ?_
      rintro e w6 ⟨rfl, ho6⟩
      go_wp2_with fail
      refine (anew_nil8 w6).mono ?_
      rintro e w7 ⟨rfl, ho7⟩
      go_wp2_with fail
      refine (state_nil8 w7).mono ?_
      rintro e w8 ⟨rfl, ho8⟩
      go_wp2_with fail
      refine (same_zero w8).mono ?_
      rintro e w9 ⟨rfl, ho9⟩
      go_wp2_with fail
      go_ret
      exact ⟨rfl, (((hn5.trans ho6).trans ho7).trans ho8).trans ho9⟩
    · by_cases n0 : n < 0
      · go_wp2_with fail
        refine (sopen_no hd3 hn hm (Sn.open_n (by omega) (by omega) (.inl n0)) (by decide) rfl).mono ?_
        rintro e w4 ⟨rfl, hd4, ho4⟩
        have hn4 : Only NoBlock w w4 := hn3.andThen ho4 (by rintro i hi (e | e) <;> omega)
        have hb4 := hb3.keeps ho4 (by rintro (e | e) <;> omega)
        have x0 : w4.cell? ⟨X, 0, none⟩ = some (.int .u64 ht) := by rw [hb4.cell]; rfl
        have x1 : w4.cell? ⟨X, 1, none⟩ = some (.int .i64 hv) := by rw [hb4.cell]; rfl
        clear hb3 hn3 ho4 hd3
        unfold noState
        have HC := Lib.hid hb4
        go_upto_region 6 with fail
        have hA := (Only.refl NoBlock w4).alloc (Obj.cells #[.int .u64 0, .int .i64 0, .int .u64 0, .int .u64 0, .int .u64 0, .string { data := #[] }, .slice none 0 0] 42); have hb5 := Blk.made w4 #[.int .u64 0, .int .i64 0, .int .u64 0, .int .u64 0, .int .u64 0, .string { data := #[] }, .slice none 0 0] 42
        generalize w4.heap.size = P at hb5 ⊢
        generalize w4.alloc (Obj.cells #[.int .u64 0, .int .i64 0, .int .u64 0, .int .u64 0, .int .u64 0, .string { data := #[] }, .slice none 0 0] 42) = w5 at hA hb5 ⊢
        have hb6 := hb4.keeps hA (fun h => h)
        have hn5 := hn4.trans hA
        have x0 : w5.cell? ⟨X, 0, none⟩ = some (.int .u64 ht) := by rw [hb6.cell]; rfl
        have x1 : w5.cell? ⟨X, 1, none⟩ = some (.int .i64 hv) := by rw [hb6.cell]; rfl
        go_wp2_with fail
        refine (save_nil w5 ht hv _).mono ?_
        rintro e w6 ⟨rfl, ho6⟩
        go_wp2_with fail
        refine (anew_nil8 w6).mono ?_
        rintro e w7 ⟨rfl, ho7⟩
        go_wp2_with fail
        refine (state_nil8 w7).mono ?_
        rintro e w8 ⟨rfl, ho8⟩
        go_wp2_with fail
        refine (same_zero w8).mono ?_
        rintro e w9 ⟨rfl, ho9⟩
        go_wp2_with fail
        go_ret
        exact ⟨rfl, (((hn5.trans ho6).trans ho7).trans ho8).trans ho9⟩
      · by_cases n1 : 16 ≤ n
        · go_wp2_with fail
          refine (sopen_no hd3 hn hm (Sn.open_n (by omega) (by omega) (.inr n1)) (by decide) rfl).mono ?_
          rintro e w4 ⟨rfl, hd4, ho4⟩
          have hn4 : Only NoBlock w w4 := hn3.andThen ho4 (by rintro i hi (e | e) <;> omega)
          have hb4 := hb3.keeps ho4 (by rintro (e | e) <;> omega)
          have x0 : w4.cell? ⟨X, 0, none⟩ = some (.int .u64 ht) := by rw [hb4.cell]; rfl
          have x1 : w4.cell? ⟨X, 1, none⟩ = some (.int .i64 hv) := by rw [hb4.cell]; rfl
          clear hb3 hn3 ho4 hd3
          unfold noState
          have HC := Lib.hid hb4
          go_upto_region 6 with fail
          have hA := (Only.refl NoBlock w4).alloc (Obj.cells #[.int .u64 0, .int .i64 0, .int .u64 0, .int .u64 0, .int .u64 0, .string { data := #[] }, .slice none 0 0] 42); have hb5 := Blk.made w4 #[.int .u64 0, .int .i64 0, .int .u64 0, .int .u64 0, .int .u64 0, .string { data := #[] }, .slice none 0 0] 42
          generalize w4.heap.size = P at hb5 ⊢
          generalize w4.alloc (Obj.cells #[.int .u64 0, .int .i64 0, .int .u64 0, .int .u64 0, .int .u64 0, .string { data := #[] }, .slice none 0 0] 42) = w5 at hA hb5 ⊢
          have hb6 := hb4.keeps hA (fun h => h)
          have hn5 := hn4.trans hA
          have x0 : w5.cell? ⟨X, 0, none⟩ = some (.int .u64 ht) := by rw [hb6.cell]; rfl
          have x1 : w5.cell? ⟨X, 1, none⟩ = some (.int .i64 hv) := by rw [hb6.cell]; rfl
          go_wp2_with fail
          refine (save_nil w5 ht hv _).mono ?_
          rintro e w6 ⟨rfl, ho6⟩
          go_wp2_with fail
          refine (anew_nil8 w6).mono ?_
          rintro e w7 ⟨rfl, ho7⟩
          go_wp2_with fail
          refine (state_nil8 w7).mono ?_
          rintro e w8 ⟨rfl, ho8⟩
          go_wp2_with fail
          refine (same_zero w8).mono ?_
          rintro e w9 ⟨rfl, ho9⟩
          go_wp2_with fail
          go_ret
          exact ⟨rfl, (((hn5.trans ho6).trans ho7).trans ho8).trans ho9⟩
        · go_wp2_with fail
          refine (sopen_ok hd3 hn hm (Sn.open_ok (n := n) (m := m) (by omega) (by omega) (by omega) (by omega)).1 rfl (Sn.open_ok (n := n) (m := m) (by omega) (by omega) (by omega) (by omega)).2).mono ?_
          rintro e w4 ⟨t, g, ao, cap, rfl, -, -, -, -, -, -, -, ho4⟩
          have hn4 : Only NoBlock w w4 := hn3.andThen ho4 (by rintro i hi (e | e) <;> omega)
          have hb4 := hb3.keeps ho4 (by rintro (e | e) <;> omega)
          have x0 : w4.cell? ⟨X, 0, none⟩ = some (.int .u64 ht) := by rw [hb4.cell]; rfl
          have x1 : w4.cell? ⟨X, 1, none⟩ = some (.int .i64 hv) := by rw [hb4.cell]; rfl
          clear hb3 hn3 ho4 hd3
          simp only [stCells, Sto.first, List.length_nil]
          have HC := Lib.hid hb4
          go_upto_region 6 with fail
          have hA := (Only.refl NoBlock w4).alloc (Obj.cells #[.int .u64 0, .int .i64 (-1), .int .u64 0, .int .u64 0, .int .u64 m, .string ByteArray.empty, .slice ao 0 cap] 42); have hb5 := Blk.made w4 #[.int .u64 0, .int .i64 (-1), .int .u64 0, .int .u64 0, .int .u64 m, .string ByteArray.empty, .slice ao 0 cap] 42
          generalize w4.heap.size = P at hb5 ⊢
          generalize w4.alloc (Obj.cells #[.int .u64 0, .int .i64 (-1), .int .u64 0, .int .u64 0, .int .u64 m, .string ByteArray.empty, .slice ao 0 cap] 42) = w5 at hA hb5 ⊢
          have hb6 := hb4.keeps hA (fun h => h)
          have hn5 := hn4.trans hA
          have x0 : w5.cell? ⟨X, 0, none⟩ = some (.int .u64 ht) := by rw [hb6.cell]; rfl
          have x1 : w5.cell? ⟨X, 1, none⟩ = some (.int .i64 hv) := by rw [hb6.cell]; rfl
          go_wp2_with fail
          refine (save_nil w5 ht hv _).mono ?_
          rintro e w6 ⟨rfl, ho6⟩
          go_wp2_with fail
          refine (anew_nil8 w6).mono ?_
          rintro e w7 ⟨rfl, ho7⟩
          go_wp2_with fail
          refine (state_nil8 w7).mono ?_
          rintro e w8 ⟨rfl, ho8⟩
          go_wp2_with fail
          refine (same_zero w8).mono ?_
          rintro e w9 ⟨rfl, ho9⟩
          go_wp2_with fail
          go_ret
          exact ⟨rfl, (((hn5.trans ho6).trans ho7).trans ho8).trans ho9⟩
theorem walk_StoreNone {w : World} (h : Hrd) (_hw : h.Wf) (m : Int) (hm : (Lit.int .u64 m).wf = true) (n : Int) (hn : (Lit.int .i64 n).wf = true) :
    Calls Try.prog 7 #[.agg #[.int .u64 h.term, .int .i64 h.vote], .int .u64 m, .int .i64 n] w fun e w' => e = .returned (.bool true) ∧ Below w.heap.size w w' := by
  obtain ⟨k, rfl, hk⟩ := O8.nat_of_wf hm
  exact (walk_None h.term h.vote k hk n hn).mono fun e w' ⟨he, ho⟩ => ⟨he, ho.below (Nat.le_refl _) (fun _ h => h.elim)⟩
end Go.Proofs.Ytekmjhenhgmpgaa
