/- machine.Machine's outcome: of a step. -/
import Derived.Test.YtogeeeigfhmpmaaMdoA
namespace Go.Proofs.Ytogeeeigfhmpmaa
open Go.RowKit
set_option maxRecDepth 100000

theorem outcome_steps (s : Mc.Sg) (step : Int) (taken : Bool) (tr : Int) (ok : Bool) : (Mc.outcome s step taken tr ok).1.steps = s.steps := by
  unfold Mc.outcome Mc.backTo
  split
  · split
    · split <;> rfl
    · split
      · dsimp only
        split <;> rfl
      · rfl
  · rfl
set_option maxHeartbeats 4000000 in
theorem mout_none (w : World) (p tb mb : Nat) (m : Mc.Mach) (hB : Blk w p #[.pointer (some ⟨tb, 0, none⟩), .map (some mb)] 72) (hS : SgsAt w mb m.sagas m.ids.length) (hk : m.Ok)
    (a b sg now : Nat) (l : List Pk.Stp) (ao : Option Addr) (cap : Nat) (st : Nat) (bk : Bool) (tr : Nat) (ok : Bool) (_hst : st ≤ 64) (hrow : RowIn stpK 38 w ao l) (hw : sg < 18446744073709551616) (hn : m.sagas sg = none) :
    Calls Try.prog 29 #[.pointer (some ⟨p, 0, none⟩), .agg #[.int .i64 (4 : Nat), .int .u64 a, .int .u64 b, .int .u64 sg, .slice ao l.length cap, .int .i64 (st : Int), .bool bk, .int .i64 (tr : Int), .bool ok, .int .u64 now]] w fun e w' => e = .returned (repV ⟨43, 0, 0⟩) ∧ Only NoBlock w w' := by
  obtain ⟨fs, hfs⟩ := u_rep
  have HFS := Lib.hid hfs
  clear hfs
  have hlen := hk.len
  go_enter Try.func29, Try.ntmps29
  go_upto_region 1 with fail
  have hX := Blk.made w #[.int .i64 (4 : Nat), .int .u64 a, .int .u64 b, .int .u64 sg, .slice ao l.length cap, .int .i64 (st : Int), .bool bk, .int .i64 (tr : Int), .bool ok, .int .u64 now] 31
  have hO := (Only.refl NoBlock w).alloc (Obj.cells #[.int .i64 (4 : Nat), .int .u64 a, .int .u64 b, .int .u64 sg, .slice ao l.length cap, .int .i64 (st : Int), .bool bk, .int .i64 (tr : Int), .bool ok, .int .u64 now] 31)
  have hz : (w.alloc (Obj.cells #[.int .i64 (4 : Nat), .int .u64 a, .int .u64 b, .int .u64 sg, .slice ao l.length cap, .int .i64 (st : Int), .bool bk, .int .i64 (tr : Int), .bool ok, .int .u64 now] 31)).heap.size = w.heap.size + 1 := by simp
  generalize w.alloc (Obj.cells #[.int .i64 (4 : Nat), .int .u64 a, .int .u64 b, .int .u64 sg, .slice ao l.length cap, .int .i64 (st : Int), .bool bk, .int .i64 (tr : Int), .bool ok, .int .u64 now] 31) = w1 at hX hO hz ⊢
  rw [← hz]
  have hG := Blk.made w1 #[.int .i64 0, .int .u64 0, .int .u64 0] 34
  have hX2 := hX.alloc (.cells #[.int .i64 0, .int .u64 0, .int .u64 0] 34)
  have hO2 := hO.alloc (.cells #[.int .i64 0, .int .u64 0, .int .u64 0] 34)
  have hG0 : w.heap.size ≤ w1.heap.size := by omega
  have hX0 : w.heap.size ≤ w.heap.size := Nat.le_refl _
  have hml := hS.lt
  generalize w1.alloc (.cells #[.int .i64 0, .int .u64 0, .int .u64 0] 34) = w2 at hG hX2 hO2 ⊢
  generalize w1.heap.size = G at hG hG0 ⊢
  have hGX : w.heap.size ≤ w2.heap.size := hO2.size
  have hmG : mb ≠ G := by omega
  generalize hXe : w.heap.size = X at hX2 ⊢
  have hX0 : w.heap.size ≤ X := by omega
  have hB2 := hB.keeps hO2 (fun h => h)
  have hS2 := hS.keepsN hO2
  have hr2 := hrow.keepsN hO2
  clear hX hO hz hB hS hrow hXe
  have c1 := hB2.cell 1
  have x3 := hX2.cell 3
  simp only [List.getElem?_toArray, List.getElem?_cons_succ, List.getElem?_cons_zero] at c1 x3
  have hAz : Only NoBlock w2 (w2.alloc (Obj.cells #[.slice none 0 0, .int .i64 0, .int .i64 0, .int .i64 0] 63)).drew := ((Only.refl NoBlock w2).alloc _).drew
  have c1A := (hB2.keeps hAz (fun h => h)).cell 1
  have x3A := (hX2.keeps hAz (fun h => h)).cell 3
  simp only [List.getElem?_toArray, List.getElem?_cons_succ, List.getElem?_cons_zero] at c1A x3A
  have hlk := (hS2.keepsN ((Only.refl NoBlock w2).drew)).lookNo hn hw
  have hlkA := (hS2.keepsN hAz).lookNo hn hw
  have c1B := c1A
  have x3B := x3A
  have hlkB := hlkA
  go_region_held3 (fun w' => w'.cell? ⟨p, 1, none⟩ = some (.map (some mb)) ∧ w'.cell? ⟨X, 3, none⟩ = some (.int .u64 sg) ∧ (Instr.lookup 70 (.map (some mb)) (.int .u64 sg) true).run Try.prog w' = .ok (.tuple #[.agg #[.slice none 0 0, .int .i64 0, .int .i64 0, .int .i64 0], .bool false]) w')
    (first | with_reducible exact ⟨c1, x3, hlk⟩ | with_reducible exact ⟨c1A, x3A, hlkA⟩ | with_reducible exact ⟨c1B, x3B, hlkB⟩ | exact ⟨by assumption, by assumption, by assumption⟩ | go_keep)
    (fail)
  all_goals
    clear hlk hlkA c1A x3A hAz c1 x3 hlkB c1B x3B
    have hSx := (Blk.made w2 #[.slice none 0 0, .int .i64 0, .int .i64 0, .int .i64 0] 63).drew
    have hA := ((Only.refl NoBlock w2).alloc (Obj.cells #[.slice none 0 0, .int .i64 0, .int .i64 0, .int .i64 0] 63)).drew
    have hB3 := hB2.keeps hA (fun h => h)
    have hG3 := hG.keeps hA (fun h => h)
    have hX3 := hX2.keeps hA (fun h => h)
    have hS3 := hS2.keepsN hA
    have hr3 := hr2.keepsN hA
    have hO3 := hO2.trans hA
    have hAs := hA
    have hSx0 : w.heap.size ≤ w2.heap.size := hO2.size
    have hGS : G ≠ w2.heap.size := by have := hG.lt; omega
    have hXS : X ≠ w2.heap.size := by have := hX2.lt; omega
    have hmS : mb ≠ w2.heap.size := by omega
    have hpS : p ≠ w2.heap.size := by have := hB2.lt; omega
    generalize (w2.alloc (Obj.cells #[.slice none 0 0, .int .i64 0, .int .i64 0, .int .i64 0] 63)).drew = w3 at hSx hB3 hG3 hX3 hS3 hr3 hO3 hAs ⊢
    generalize w2.heap.size = Sx at hSx hSx0 hGS hXS hmS hpS ⊢
    clear hA hB2 hG hX2 hS2 hr2 hO2 hGX
    have g0 := hG3.cell 0
    have gf0 := hG3.free 0
    have g1 := hG3.cell 1
    have gf1 := hG3.free 1
    have g2 := hG3.cell 2
    have gf2 := hG3.free 2
    simp only [List.getElem?_toArray, List.getElem?_cons_succ, List.getElem?_cons_zero] at g0 g1 g2
    go_wp2_with fail
    have hV := rep_ret hG3 (.int .i64 43) (.int .u64 0) (.int .u64 0) rfl
    refine bodyPost_ret (results_cell_row (P := Try.prog) rfl _ _ G _ _ _ _ rfl hV HFS.out rfl size_rep) rfl ?_
    exact ⟨rfl, ((hO3.setCell (p := ⟨G, 0, none⟩) (fun h => by have h' : G < w.heap.size := h; omega) (.int .i64 43)).setCell (p := ⟨G, 1, none⟩) (fun h => by have h' : G < w.heap.size := h; omega) (.int .u64 0)).setCell (p := ⟨G, 2, none⟩) (fun h => by have h' : G < w.heap.size := h; omega) (.int .u64 0)⟩
set_option maxHeartbeats 4000000 in
theorem mout_stale (w : World) (p tb mb : Nat) (m : Mc.Mach) (hB : Blk w p #[.pointer (some ⟨tb, 0, none⟩), .map (some mb)] 72) (hS : SgsAt w mb m.sagas m.ids.length) (hk : m.Ok)
    (a b sg now : Nat) (l : List Pk.Stp) (ao : Option Addr) (cap : Nat) (st : Nat) (bk : Bool) (tr : Nat) (ok : Bool) (hst : st ≤ 64) (hrow : RowIn stpK 38 w ao l) (hw : sg < 18446744073709551616) (s : Mc.Sg) (hn : m.sagas sg = some s) (hc : (Mc.outcome s st bk tr ok).2 = false) :
    Calls Try.prog 29 #[.pointer (some ⟨p, 0, none⟩), .agg #[.int .i64 (4 : Nat), .int .u64 a, .int .u64 b, .int .u64 sg, .slice ao l.length cap, .int .i64 (st : Int), .bool bk, .int .i64 (tr : Int), .bool ok, .int .u64 now]] w fun e w' => e = .returned (repV ⟨41, 0, 0⟩) ∧ Only NoBlock w w' := by
  obtain ⟨fs, hfs⟩ := u_rep
  have HFS := Lib.hid hfs
  clear hfs
  have hlen := hk.len
  go_enter Try.func29, Try.ntmps29
  go_upto_region 1 with fail
  have hX := Blk.made w #[.int .i64 (4 : Nat), .int .u64 a, .int .u64 b, .int .u64 sg, .slice ao l.length cap, .int .i64 (st : Int), .bool bk, .int .i64 (tr : Int), .bool ok, .int .u64 now] 31
  have hO := (Only.refl NoBlock w).alloc (Obj.cells #[.int .i64 (4 : Nat), .int .u64 a, .int .u64 b, .int .u64 sg, .slice ao l.length cap, .int .i64 (st : Int), .bool bk, .int .i64 (tr : Int), .bool ok, .int .u64 now] 31)
  have hz : (w.alloc (Obj.cells #[.int .i64 (4 : Nat), .int .u64 a, .int .u64 b, .int .u64 sg, .slice ao l.length cap, .int .i64 (st : Int), .bool bk, .int .i64 (tr : Int), .bool ok, .int .u64 now] 31)).heap.size = w.heap.size + 1 := by simp
  generalize w.alloc (Obj.cells #[.int .i64 (4 : Nat), .int .u64 a, .int .u64 b, .int .u64 sg, .slice ao l.length cap, .int .i64 (st : Int), .bool bk, .int .i64 (tr : Int), .bool ok, .int .u64 now] 31) = w1 at hX hO hz ⊢
  rw [← hz]
  have hG := Blk.made w1 #[.int .i64 0, .int .u64 0, .int .u64 0] 34
  have hX2 := hX.alloc (.cells #[.int .i64 0, .int .u64 0, .int .u64 0] 34)
  have hO2 := hO.alloc (.cells #[.int .i64 0, .int .u64 0, .int .u64 0] 34)
  have hG0 : w.heap.size ≤ w1.heap.size := by omega
  have hX0 : w.heap.size ≤ w.heap.size := Nat.le_refl _
  have hml := hS.lt
  generalize w1.alloc (.cells #[.int .i64 0, .int .u64 0, .int .u64 0] 34) = w2 at hG hX2 hO2 ⊢
  generalize w1.heap.size = G at hG hG0 ⊢
  have hGX : w.heap.size ≤ w2.heap.size := hO2.size
  have hmG : mb ≠ G := by omega
  generalize hXe : w.heap.size = X at hX2 ⊢
  have hX0 : w.heap.size ≤ X := by omega
  have hB2 := hB.keeps hO2 (fun h => h)
  have hS2 := hS.keepsN hO2
  have hr2 := hrow.keepsN hO2
  clear hX hO hz hB hS hrow hXe
  have c1 := hB2.cell 1
  have x3 := hX2.cell 3
  simp only [List.getElem?_toArray, List.getElem?_cons_succ, List.getElem?_cons_zero] at c1 x3
  have HC := Lib.hid hc
  clear hc
  have hsm := okSs_small (Mc.sound_up (hk.sound sg s hn)).1
  have hAz : Only NoBlock w2 (w2.alloc (Obj.cells #[.slice none 0 0, .int .i64 0, .int .i64 0, .int .i64 0] 63)).drew := ((Only.refl NoBlock w2).alloc _).drew
  have c1A := (hB2.keeps hAz (fun h => h)).cell 1
  have x3A := (hX2.keeps hAz (fun h => h)).cell 3
  simp only [List.getElem?_toArray, List.getElem?_cons_succ, List.getElem?_cons_zero] at c1A x3A
  obtain ⟨aos, caps, hrs, hlks⟩ := hS2.lookAll hn hw
  have hlk := (hlks _ (Only.refl NoBlock w2).drew).1
  have hlkA := (hlks _ hAz).1
  have hAv : Only NoBlock w2 (w2.alloc (Obj.cells #[.slice aos s.steps.length caps, .int .i64 s.state, .int .i64 s.cursor, .int .i64 s.failed] 63)).drew := ((Only.refl NoBlock w2).alloc _).drew
  have c1B := (hB2.keeps hAv (fun h => h)).cell 1
  have x3B := (hX2.keeps hAv (fun h => h)).cell 3
  simp only [List.getElem?_toArray, List.getElem?_cons_succ, List.getElem?_cons_zero] at c1B x3B
  have hlkB := (hlks _ hAv).1
  go_region_held3 (fun w' => w'.cell? ⟨p, 1, none⟩ = some (.map (some mb)) ∧ w'.cell? ⟨X, 3, none⟩ = some (.int .u64 sg) ∧ (Instr.lookup 70 (.map (some mb)) (.int .u64 sg) true).run Try.prog w' = .ok (.tuple #[.agg #[.slice aos s.steps.length caps, .int .i64 s.state, .int .i64 s.cursor, .int .i64 s.failed], .bool true]) w')
    (first | with_reducible exact ⟨c1, x3, hlk⟩ | with_reducible exact ⟨c1A, x3A, hlkA⟩ | with_reducible exact ⟨c1B, x3B, hlkB⟩ | exact ⟨by assumption, by assumption, by assumption⟩ | go_keep)
    (fail)
  all_goals
    clear hlk hlkA c1A x3A hAz c1 x3 hlkB c1B x3B
    have hSx := (Blk.made w2 #[.slice aos s.steps.length caps, .int .i64 s.state, .int .i64 s.cursor, .int .i64 s.failed] 63).drew
    have hA := ((Only.refl NoBlock w2).alloc (Obj.cells #[.slice aos s.steps.length caps, .int .i64 s.state, .int .i64 s.cursor, .int .i64 s.failed] 63)).drew
    have hB3 := hB2.keeps hA (fun h => h)
    have hG3 := hG.keeps hA (fun h => h)
    have hX3 := hX2.keeps hA (fun h => h)
    have hS3 := hS2.keepsN hA
    have hr3 := hr2.keepsN hA
    have hO3 := hO2.trans hA
    have hAs := hA
    have hSx0 : w.heap.size ≤ w2.heap.size := hO2.size
    have hGS : G ≠ w2.heap.size := by have := hG.lt; omega
    have hXS : X ≠ w2.heap.size := by have := hX2.lt; omega
    have hmS : mb ≠ w2.heap.size := by omega
    have hpS : p ≠ w2.heap.size := by have := hB2.lt; omega
    generalize (w2.alloc (Obj.cells #[.slice aos s.steps.length caps, .int .i64 s.state, .int .i64 s.cursor, .int .i64 s.failed] 63)).drew = w3 at hSx hB3 hG3 hX3 hS3 hr3 hO3 hAs ⊢
    generalize w2.heap.size = Sx at hSx hSx0 hGS hXS hmS hpS ⊢
    clear hA hB2 hG hX2 hS2 hr2 hO2 hGX
    have hrs3 := hrs.keepsN (hAs)
    clear hlks hrs hAs hAv
    have x5 := hX3.cell 5
    have x6 := hX3.cell 6
    have x7 := hX3.cell 7
    have x8 := hX3.cell 8
    simp only [List.getElem?_toArray, List.getElem?_cons_succ, List.getElem?_cons_zero] at x5 x6 x7 x8
    have s0 := hSx.cell 0
    have sf0 := hSx.free 0
    have s1 := hSx.cell 1
    have sf1 := hSx.free 1
    have s2 := hSx.cell 2
    have sf2 := hSx.free 2
    have s3 := hSx.cell 3
    have sf3 := hSx.free 3
    simp only [List.getElem?_toArray, List.getElem?_cons_succ, List.getElem?_cons_zero] at s0 s1 s2 s3
    go_wp2_with fail
    refine (outcome_at w3 s aos caps hsm hrs3 st bk tr ok (by omega)).mono ?_
    rintro e w4 ⟨rfl, hO4⟩
    rw [HC.out]
    have hB4 := hB3.keeps hO4 (fun h => h)
    have hG4 := hG3.keeps hO4 (fun h => h)
    have hX4 := hX3.keeps hO4 (fun h => h)
    have hS4 := hS3.keepsN hO4
    have hSx4 := hSx.keeps hO4 (fun h => h)
    have hO4' := hO3.trans hO4
    clear hB3 hG3 hX3 hS3 hSx hO3 hr3 hrs3 hO4 x5 x6 x7 x8
    clear s0 s1 s2 s3 sf0 sf1 sf2 sf3
    have s0 := hSx4.cell 0
    have sf0 := hSx4.free 0
    have s1 := hSx4.cell 1
    have sf1 := hSx4.free 1
    have s2 := hSx4.cell 2
    have sf2 := hSx4.free 2
    have s3 := hSx4.cell 3
    have sf3 := hSx4.free 3
    simp only [List.getElem?_toArray, List.getElem?_cons_succ, List.getElem?_cons_zero] at s0 s1 s2 s3
    generalize (Mc.outcome s st bk tr ok).1 = so
    unfold sgV
    have g0 := hG4.cell 0
    have gf0 := hG4.free 0
    have g1 := hG4.cell 1
    have gf1 := hG4.free 1
    have g2 := hG4.cell 2
    have gf2 := hG4.free 2
    simp only [List.getElem?_toArray, List.getElem?_cons_succ, List.getElem?_cons_zero] at g0 g1 g2
    go_upto_region 6 with fail
    have hO5 := sets_only (g := Sx) hO4' (fun h => by omega) [.slice aos so.steps.length caps, .int .i64 so.state, .int .i64 so.cursor, .int .i64 so.failed] 0
    have hZ := sets_only (S := fun k => k = Sx) (g := Sx) (Only.refl _ w4) (fun _ => rfl) [.slice aos so.steps.length caps, .int .i64 so.state, .int .i64 so.cursor, .int .i64 so.failed] 0
    simp only [sets] at hO5 hZ
    have hG5 := hG4.keeps hZ (fun e => hGS e)
    generalize ((((w4.setCell ⟨Sx, 0, none⟩ (.slice aos so.steps.length caps)).setCell ⟨Sx, 0 + 1, none⟩ (.int .i64 so.state)).setCell ⟨Sx, 0 + 1 + 1, none⟩ (.int .i64 so.cursor)).setCell ⟨Sx, 0 + 1 + 1 + 1, none⟩ (.int .i64 so.failed)) = w5 at hO5 hG5 ⊢
    clear g0 g1 g2 gf0 gf1 gf2
    have g0 := hG5.cell 0
    have gf0 := hG5.free 0
    have g1 := hG5.cell 1
    have gf1 := hG5.free 1
    have g2 := hG5.cell 2
    have gf2 := hG5.free 2
    simp only [List.getElem?_toArray, List.getElem?_cons_succ, List.getElem?_cons_zero] at g0 g1 g2
    go_wp2_with fail
    have hV := rep_ret hG5 (.int .i64 41) (.int .u64 0) (.int .u64 0) rfl
    refine bodyPost_ret (results_cell_row (P := Try.prog) rfl _ _ G _ _ _ _ rfl hV HFS.out rfl size_rep) rfl ?_
    exact ⟨rfl, ((hO5.setCell (p := ⟨G, 0, none⟩) (fun h => by have h' : G < w.heap.size := h; omega) (.int .i64 41)).setCell (p := ⟨G, 1, none⟩) (fun h => by have h' : G < w.heap.size := h; omega) (.int .u64 0)).setCell (p := ⟨G, 2, none⟩) (fun h => by have h' : G < w.heap.size := h; omega) (.int .u64 0)⟩
set_option maxHeartbeats 4000000 in
theorem mout_done (w : World) (p tb mb : Nat) (m : Mc.Mach) (hB : Blk w p #[.pointer (some ⟨tb, 0, none⟩), .map (some mb)] 72) (hS : SgsAt w mb m.sagas m.ids.length) (hk : m.Ok)
    (a b sg now : Nat) (l : List Pk.Stp) (ao : Option Addr) (cap : Nat) (st : Nat) (bk : Bool) (tr : Nat) (ok : Bool) (hst : st ≤ 64) (hrow : RowIn stpK 38 w ao l) (hw : sg < 18446744073709551616) (s : Mc.Sg) (hn : m.sagas sg = some s) (hc : (Mc.outcome s st bk tr ok).2 = true) :
    Calls Try.prog 29 #[.pointer (some ⟨p, 0, none⟩), .agg #[.int .i64 (4 : Nat), .int .u64 a, .int .u64 b, .int .u64 sg, .slice ao l.length cap, .int .i64 (st : Int), .bool bk, .int .i64 (tr : Int), .bool ok, .int .u64 now]] w fun e w' => e = .returned (repV (Mc.told (Mc.outcome s st bk tr ok).1)) ∧ SgsAt w' mb (Mc.put m.sagas sg (Mc.outcome s st bk tr ok).1) m.ids.length ∧ Only (fun k => k = mb) w w' := by
  obtain ⟨fs, hfs⟩ := u_rep
  have HFS := Lib.hid hfs
  clear hfs
  have hlen := hk.len
  go_enter Try.func29, Try.ntmps29
  go_upto_region 1 with fail
  have hX := Blk.made w #[.int .i64 (4 : Nat), .int .u64 a, .int .u64 b, .int .u64 sg, .slice ao l.length cap, .int .i64 (st : Int), .bool bk, .int .i64 (tr : Int), .bool ok, .int .u64 now] 31
  have hO := (Only.refl NoBlock w).alloc (Obj.cells #[.int .i64 (4 : Nat), .int .u64 a, .int .u64 b, .int .u64 sg, .slice ao l.length cap, .int .i64 (st : Int), .bool bk, .int .i64 (tr : Int), .bool ok, .int .u64 now] 31)
  have hz : (w.alloc (Obj.cells #[.int .i64 (4 : Nat), .int .u64 a, .int .u64 b, .int .u64 sg, .slice ao l.length cap, .int .i64 (st : Int), .bool bk, .int .i64 (tr : Int), .bool ok, .int .u64 now] 31)).heap.size = w.heap.size + 1 := by simp
  generalize w.alloc (Obj.cells #[.int .i64 (4 : Nat), .int .u64 a, .int .u64 b, .int .u64 sg, .slice ao l.length cap, .int .i64 (st : Int), .bool bk, .int .i64 (tr : Int), .bool ok, .int .u64 now] 31) = w1 at hX hO hz ⊢
  rw [← hz]
  have hG := Blk.made w1 #[.int .i64 0, .int .u64 0, .int .u64 0] 34
  have hX2 := hX.alloc (.cells #[.int .i64 0, .int .u64 0, .int .u64 0] 34)
  have hO2 := hO.alloc (.cells #[.int .i64 0, .int .u64 0, .int .u64 0] 34)
  have hG0 : w.heap.size ≤ w1.heap.size := by omega
  have hX0 : w.heap.size ≤ w.heap.size := Nat.le_refl _
  have hml := hS.lt
  generalize w1.alloc (.cells #[.int .i64 0, .int .u64 0, .int .u64 0] 34) = w2 at hG hX2 hO2 ⊢
  generalize w1.heap.size = G at hG hG0 ⊢
  have hGX : w.heap.size ≤ w2.heap.size := hO2.size
  have hmG : mb ≠ G := by omega
  generalize hXe : w.heap.size = X at hX2 ⊢
  have hX0 : w.heap.size ≤ X := by omega
  have hB2 := hB.keeps hO2 (fun h => h)
  have hS2 := hS.keepsN hO2
  have hr2 := hrow.keepsN hO2
  clear hX hO hz hB hS hrow hXe
  have c1 := hB2.cell 1
  have x3 := hX2.cell 3
  simp only [List.getElem?_toArray, List.getElem?_cons_succ, List.getElem?_cons_zero] at c1 x3
  have HC := Lib.hid hc
  clear hc
  have hsm := okSs_small (Mc.sound_up (hk.sound sg s hn)).1
  have HSO := Lib.hid (hk.sound sg s hn)
  have hAz : Only NoBlock w2 (w2.alloc (Obj.cells #[.slice none 0 0, .int .i64 0, .int .i64 0, .int .i64 0] 63)).drew := ((Only.refl NoBlock w2).alloc _).drew
  have c1A := (hB2.keeps hAz (fun h => h)).cell 1
  have x3A := (hX2.keeps hAz (fun h => h)).cell 3
  simp only [List.getElem?_toArray, List.getElem?_cons_succ, List.getElem?_cons_zero] at c1A x3A
  obtain ⟨aos, caps, hrs, hlks⟩ := hS2.lookAll hn hw
  have hlk := (hlks _ (Only.refl NoBlock w2).drew).1
  have hlkA := (hlks _ hAz).1
  have hAv : Only NoBlock w2 (w2.alloc (Obj.cells #[.slice aos s.steps.length caps, .int .i64 s.state, .int .i64 s.cursor, .int .i64 s.failed] 63)).drew := ((Only.refl NoBlock w2).alloc _).drew
  have c1B := (hB2.keeps hAv (fun h => h)).cell 1
  have x3B := (hX2.keeps hAv (fun h => h)).cell 3
  simp only [List.getElem?_toArray, List.getElem?_cons_succ, List.getElem?_cons_zero] at c1B x3B
  have hlkB := (hlks _ hAv).1
  go_region_held3 (fun w' => w'.cell? ⟨p, 1, none⟩ = some (.map (some mb)) ∧ w'.cell? ⟨X, 3, none⟩ = some (.int .u64 sg) ∧ (Instr.lookup 70 (.map (some mb)) (.int .u64 sg) true).run Try.prog w' = .ok (.tuple #[.agg #[.slice aos s.steps.length caps, .int .i64 s.state, .int .i64 s.cursor, .int .i64 s.failed], .bool true]) w')
    (first | with_reducible exact ⟨c1, x3, hlk⟩ | with_reducible exact ⟨c1A, x3A, hlkA⟩ | with_reducible exact ⟨c1B, x3B, hlkB⟩ | exact ⟨by assumption, by assumption, by assumption⟩ | go_keep)
    (fail)
  all_goals
    clear hlk hlkA c1A x3A hAz c1 x3 hlkB c1B x3B
    have hSx := (Blk.made w2 #[.slice aos s.steps.length caps, .int .i64 s.state, .int .i64 s.cursor, .int .i64 s.failed] 63).drew
    have hA := ((Only.refl NoBlock w2).alloc (Obj.cells #[.slice aos s.steps.length caps, .int .i64 s.state, .int .i64 s.cursor, .int .i64 s.failed] 63)).drew
    have hB3 := hB2.keeps hA (fun h => h)
    have hG3 := hG.keeps hA (fun h => h)
    have hX3 := hX2.keeps hA (fun h => h)
    have hS3 := hS2.keepsN hA
    have hr3 := hr2.keepsN hA
    have hO3 := hO2.trans hA
    have hAs := hA
    have hSx0 : w.heap.size ≤ w2.heap.size := hO2.size
    have hGS : G ≠ w2.heap.size := by have := hG.lt; omega
    have hXS : X ≠ w2.heap.size := by have := hX2.lt; omega
    have hmS : mb ≠ w2.heap.size := by omega
    have hpS : p ≠ w2.heap.size := by have := hB2.lt; omega
    generalize (w2.alloc (Obj.cells #[.slice aos s.steps.length caps, .int .i64 s.state, .int .i64 s.cursor, .int .i64 s.failed] 63)).drew = w3 at hSx hB3 hG3 hX3 hS3 hr3 hO3 hAs ⊢
    generalize w2.heap.size = Sx at hSx hSx0 hGS hXS hmS hpS ⊢
    clear hA hB2 hG hX2 hS2 hr2 hO2 hGX
    have hrs3 := hrs.keepsN (hAs)
    clear hlks hrs hAs hAv
    have x5 := hX3.cell 5
    have x6 := hX3.cell 6
    have x7 := hX3.cell 7
    have x8 := hX3.cell 8
    simp only [List.getElem?_toArray, List.getElem?_cons_succ, List.getElem?_cons_zero] at x5 x6 x7 x8
    have s0 := hSx.cell 0
    have sf0 := hSx.free 0
    have s1 := hSx.cell 1
    have sf1 := hSx.free 1
    have s2 := hSx.cell 2
    have sf2 := hSx.free 2
    have s3 := hSx.cell 3
    have sf3 := hSx.free 3
    simp only [List.getElem?_toArray, List.getElem?_cons_succ, List.getElem?_cons_zero] at s0 s1 s2 s3
    go_wp2_with fail
    refine (outcome_at w3 s aos caps hsm hrs3 st bk tr ok (by omega)).mono ?_
    rintro e w4 ⟨rfl, hO4⟩
    rw [HC.out]
    have hB4 := hB3.keeps hO4 (fun h => h)
    have hG4 := hG3.keeps hO4 (fun h => h)
    have hX4 := hX3.keeps hO4 (fun h => h)
    have hS4 := hS3.keepsN hO4
    have hSx4 := hSx.keeps hO4 (fun h => h)
    have hO4' := hO3.trans hO4
    have hab := Mc.sound_up (Mc.outcome_sound HSO.out st bk tr ok)
    have hsp : (Mc.outcome s st bk tr ok).1.steps = s.steps := outcome_steps s st bk tr ok
    generalize hsa : (Mc.outcome s st bk tr ok).1 = sa at hab hsp ⊢
    have HAB := Lib.hid hab
    have HST := Lib.hid hsp
    have HSA := Lib.hid hsa
    clear hsa hab hsp
    have hr4 : RowIn stpK 38 w4 aos sa.steps := by rw [HST.out]; exact hrs3.keepsN hO4
    clear hB3 hG3 hX3 hS3 hSx hO3 hr3 hrs3 hO4 x5 x6 x7 x8
    clear s0 s1 s2 s3 sf0 sf1 sf2 sf3
    have s0 := hSx4.cell 0
    have sf0 := hSx4.free 0
    have s1 := hSx4.cell 1
    have sf1 := hSx4.free 1
    have s2 := hSx4.cell 2
    have sf2 := hSx4.free 2
    have s3 := hSx4.cell 3
    have sf3 := hSx4.free 3
    simp only [List.getElem?_toArray, List.getElem?_cons_succ, List.getElem?_cons_zero] at s0 s1 s2 s3
    have hl0 : 0 < sa.steps.length := (Mc.okSs_pos HAB.out.1).1
    unfold sgV
    go_upto_region 7 with fail
    have hZ := sets_only (S := fun k => k = Sx) (g := Sx) (Only.refl _ w4) (fun _ => rfl) [.slice aos sa.steps.length caps, .int .i64 sa.state, .int .i64 sa.cursor, .int .i64 sa.failed] 0
    have hSx5 := sets_blk hSx4 [.slice aos sa.steps.length caps, .int .i64 sa.state, .int .i64 sa.cursor, .int .i64 sa.failed] rfl
    have hO5 := sets_only (g := Sx) hO4' (fun h => by omega) [.slice aos sa.steps.length caps, .int .i64 sa.state, .int .i64 sa.cursor, .int .i64 sa.failed] 0
    simp only [sets] at hZ hSx5 hO5
    have hB5 := hB4.keeps hZ (fun e => hpS e)
    have hG5 := hG4.keeps hZ (fun e => hGS e)
    have hX5 := hX4.keeps hZ (fun e => hXS e)
    have hS5 := hS4.keeps hZ (fun e => hmS e) (fun k hk => by subst hk; exact fun ht => ht.ne_blk hSx4 (by decide) rfl)
    have hr5 := hr4.keepsT hZ (fun k hk => by subst hk; exact fun ht => ht.ne_blk hSx4 (by decide) rfl)
    generalize ((((w4.setCell ⟨Sx, 0, none⟩ (.slice aos sa.steps.length caps)).setCell ⟨Sx, 0 + 1, none⟩ (.int .i64 sa.state)).setCell ⟨Sx, 0 + 1 + 1, none⟩ (.int .i64 sa.cursor)).setCell ⟨Sx, 0 + 1 + 1 + 1, none⟩ (.int .i64 sa.failed)) = w5 at hSx5 hO5 hB5 hG5 hX5 hS5 hr5 ⊢
    clear hZ hB4 hG4 hX4 hS4 hSx4 hO4' hr4
    clear s0 s1 s2 s3 sf0 sf1 sf2 sf3
    have s0 := hSx5.cell 0
    have sf0 := hSx5.free 0
    have s1 := hSx5.cell 1
    have sf1 := hSx5.free 1
    have s2 := hSx5.cell 2
    have sf2 := hSx5.free 2
    have s3 := hSx5.cell 3
    have sf3 := hSx5.free 3
    simp only [List.getElem?_toArray, List.getElem?_cons_succ, List.getElem?_cons_zero] at s0 s1 s2 s3
    have c1 := hB5.cell 1
    have x3 := hX5.cell 3
    simp only [List.getElem?_toArray, List.getElem?_cons_succ, List.getElem?_cons_zero] at c1 x3
    refine wp_region_tail 7 (by kernel_rfl) (by kernel_rfl) ?_
    simp only [List.take_succ_cons, List.take_zero, List.drop_succ_cons, List.drop_zero]
    repeat still_step
    try refine wpStill_nil ?_
    have hS5d := hS5.keepsN ((Only.refl NoBlock w5).drew)
    have hr5d := hr5.keepsN ((Only.refl NoBlock w5).drew)
    go_upto_region 8 with (first | (at_mapUpdate; refine wpList_sgstore rfl _ _ _ rfl hS5d (by omega) rfl sg rfl hw sa aos caps rfl hr5d hl0 ?_; intro w6 hS6 hg6))
    have hOm := Only.of_grown hg6
    have hG6 := (Blk.drew hG5).keeps hOm (fun e => hmG (by cases e; rfl))
    have hSx6 := (Blk.drew hSx5).keeps hOm (fun e => hmS (by cases e; rfl))
    have hO6 : Only (fun k => k = mb) w w6 := (hO5.drew.of_no).grown hg6 (fun k hk _ => by cases hk; rfl)
    clear hOm hg6 hS5 hS5d hr5 hr5d hG5 hSx5 hX5 hB5 hO5 c1 x3
    clear s0 s1 s2 s3 sf0 sf1 sf2 sf3
    have s0 := hSx6.cell 0
    have s1 := hSx6.cell 1
    have s2 := hSx6.cell 2
    have s3 := hSx6.cell 3
    simp only [List.getElem?_toArray, List.getElem?_cons_succ, List.getElem?_cons_zero] at s0 s1 s2 s3
    go_wp2_with fail
    refine (told_at w6 sa aos caps HAB.out.2.1 (by have := HAB.out; omega) HAB.out.2.2.2.1 (by have := HAB.out; omega)).mono ?_
    rintro e w7 ⟨rfl, hO7⟩
    have hG7 := hG6.keeps hO7 (fun h => h)
    have hS7 := hS6.keepsN hO7
    have hO7' := hO6.trans hO7.of_no
    clear hG6 hSx6 hS6 hO6 hO7
    clear s0 s1 s2 s3
    have g0 := hG7.cell 0
    have gf0 := hG7.free 0
    have g1 := hG7.cell 1
    have gf1 := hG7.free 1
    have g2 := hG7.cell 2
    have gf2 := hG7.free 2
    simp only [List.getElem?_toArray, List.getElem?_cons_succ, List.getElem?_cons_zero] at g0 g1 g2
    unfold repV
    go_wp2_with fail
    have hW2 := sets_only (S := fun k => k = G) (g := G) (Only.refl _ w7) (fun _ => rfl) [.int .i64 (Mc.told sa).err, .int .u64 (Mc.told sa).num, .int .u64 (Mc.told sa).extra] 0
    simp only [sets] at hW2
    have hV := rep_ret hG7 (.int .i64 (Mc.told sa).err) (.int .u64 (Mc.told sa).num) (.int .u64 (Mc.told sa).extra) rfl
    refine bodyPost_ret (results_cell_row (P := Try.prog) rfl _ _ G _ _ _ _ rfl hV HFS.out rfl size_rep) rfl ?_
    rw [HSA.out]
    exact ⟨rfl, by have := hS7.keeps hW2 (fun e => hmG e) (fun k hk => by subst hk; exact fun ht => ht.ne_blk hG7 (by decide) rfl); rw [hn] at this; exact this, only_new hO7' hG0 hW2⟩
theorem mout_at (w : World) (p tb mb : Nat) (m : Mc.Mach) (hB : Blk w p #[.pointer (some ⟨tb, 0, none⟩), .map (some mb)] 72) (hS : SgsAt w mb m.sagas m.ids.length) (hk : m.Ok)
    (c : Pk.Cmd) (ao : Option Addr) (cap : Nat) (hrow : RowIn stpK 38 w ao c.steps) (hm : Pk.may c = true) (hw : c.Wf) (h4 : c.kind = 4) :
    Calls Try.prog 29 #[.pointer (some ⟨p, 0, none⟩), cmdV c ao cap] w fun e w' => e = .returned (repV (m.outcome c).2) ∧ SgsAt w' mb (m.outcome c).1.sagas (m.outcome c).1.ids.length ∧ Only (fun k => k = mb) w w' := by
  have hws := hw.saga
  obtain ⟨k, a, b, sg, l, st, bk, tr, ok, now⟩ := c
  simp only at h4 hrow hws
  subst h4
  have hst : st ≤ 64 := by
    unfold Pk.may at hm
    rw [if_neg (by simp), if_neg (by simp), if_pos rfl] at hm
    simp at hm
    omega
  have keep : ∀ {w' : World}, Only NoBlock w w' → SgsAt w' mb m.sagas m.ids.length ∧ Only (fun k => k = mb) w w' := fun ho => ⟨hS.keepsN ho, ho.of_no⟩
  cases hn : m.sagas sg with
  | none =>
    have e : m.outcome ⟨4, a, b, sg, l, st, bk, tr, ok, now⟩ = (m, ⟨43, 0, 0⟩) := by unfold Mc.Mach.outcome; simp only [hn]
    rw [e]
    exact (mout_none w p tb mb m hB hS hk a b sg now l ao cap st bk tr ok hst hrow hws hn).mono (fun _ _ h => ⟨h.1, keep h.2⟩)
  | some s =>
    cases hc : (Mc.outcome s st bk tr ok).2 with
    | false =>
      have e : m.outcome ⟨4, a, b, sg, l, st, bk, tr, ok, now⟩ = (m, ⟨41, 0, 0⟩) := by unfold Mc.Mach.outcome; simp only [hn]; rw [if_neg (by rw [hc]; exact Bool.false_ne_true)]
      rw [e]
      exact (mout_stale w p tb mb m hB hS hk a b sg now l ao cap st bk tr ok hst hrow hws s hn hc).mono (fun _ _ h => ⟨h.1, keep h.2⟩)
    | true =>
      have e : m.outcome ⟨4, a, b, sg, l, st, bk, tr, ok, now⟩ = (⟨m.tab, m.ids, Mc.put m.sagas sg (Mc.outcome s st bk tr ok).1⟩, Mc.told (Mc.outcome s st bk tr ok).1) := by unfold Mc.Mach.outcome; simp only [hn]; rw [if_pos hc]
      rw [e]
      exact mout_done w p tb mb m hB hS hk a b sg now l ao cap st bk tr ok hst hrow hws s hn hc
end Go.Proofs.Ytogeeeigfhmpmaa
