/- command.Decode: bytes are read as a command. -/
import Derived.Test.YtogeeeigfhmpmaaMay
import Derived.Test.YtogeeeigfhmpmaaPlanR
import Derived.Test.YtogeeeigfhmpmaaSets
namespace Go.Proofs.Ytogeeeigfhmpmaa
open Go.RowKit
set_option maxRecDepth 100000

/-- behind the head -/
def Pk.rdT (m k : Nat) (kind a b c now : Nat) (e : Pk.RD) : Pk.Cmd × Pk.RD :=
  if kind = 2 then (⟨kind, a, b, c, (Pk.rdSs e).1, 0, false, 0, false, now⟩, (Pk.rdSs e).2)
  else if kind = 4 then (⟨kind, a, b, c, [], (e.up m).1, decide (((e.up m).2.up 1).1 = 1), (((e.up m).2.up 1).2.up k).1, decide (((((e.up m).2.up 1).2.up k).2.up 1).1 = 1), now⟩, ((((e.up m).2.up 1).2.up k).2.up 1).2)
  else (⟨kind, a, b, c, [], 0, false, 0, false, now⟩, e)
theorem Pk.rdC_T (m k : Nat) (s : List Int) : Pk.rdC m k s = Pk.rdT m k ((Pk.RD.mk s false).up 5).1 (Pk.numV ((Pk.RD.mk s false).up 5).2.s) (Pk.numV (Pk.numR ((Pk.RD.mk s false).up 5).2).s) (Pk.numV (Pk.numR (Pk.numR ((Pk.RD.mk s false).up 5).2)).s) (Pk.numV (Pk.numR (Pk.numR (Pk.numR ((Pk.RD.mk s false).up 5).2))).s) (Pk.numR (Pk.numR (Pk.numR (Pk.numR ((Pk.RD.mk s false).up 5).2)))) := rfl
def cmd0 : Value := .agg #[.int .i64 0, .int .u64 0, .int .u64 0, .int .u64 0, .slice none 0 0, .int .i64 0, .bool false, .int .i64 0, .bool false, .int .u64 0]
/-- what Decode makes of bytes -/
def DecEnd (s : ByteArray) (w : World) (e : Ending) (w' : World) : Prop :=
  Only NoBlock w w' ∧ ((∃ c ao cap, Pk.dec (nums s) = some c ∧ Smalls c.steps ∧ e = .returned (.tuple #[cmdV c ao cap, .int .i64 0]) ∧ RowIn stpK 38 w' ao c.steps) ∨ (Pk.dec (nums s) = none ∧ e = .returned (.tuple #[cmd0, .int .i64 2])))
theorem u_cmd : ∃ fs, Try.prog.underlying 31 = some (.struct fs) := ⟨_, rfl⟩
theorem size_cmd : (Try.prog.info? 31).map (·.size) = some 10 := by kernel_rfl
set_option maxHeartbeats 8000000 in
theorem decode_at (w : World) (s : ByteArray) (hs : s.size ≤ 1000000000000) :
    Calls Try.prog 26 #[.string s] w (DecEnd s w) := by
  have HD := Lib.hid (show Pk.dec (nums s) = (if (Pk.rdC 64 9 (nums s)).2.done = true ∧ Pk.may (Pk.rdC 64 9 (nums s)).1 = true then some (Pk.rdC 64 9 (nums s)).1 else none) from rfl)
  have HS := Lib.hid (Pk.rdC_T 64 9 (nums s))
  obtain ⟨fs, hfs⟩ := u_cmd
  have HFS := Lib.hid hfs
  clear hfs
  go_enter Try.func26, Try.ntmps26
  go_upto_region 1 with fail
  have hG := Blk.made w #[.int .i64 0, .int .u64 0, .int .u64 0, .int .u64 0, .slice none 0 0, .int .i64 0, .bool false, .int .i64 0, .bool false, .int .u64 0] 31
  have hO := (Only.refl NoBlock w).alloc (Obj.cells #[.int .i64 0, .int .u64 0, .int .u64 0, .int .u64 0, .slice none 0 0, .int .i64 0, .bool false, .int .i64 0, .bool false, .int .u64 0] 31)
  have hz : (w.alloc (Obj.cells #[.int .i64 0, .int .u64 0, .int .u64 0, .int .u64 0, .slice none 0 0, .int .i64 0, .bool false, .int .i64 0, .bool false, .int .u64 0] 31)).heap.size = w.heap.size + 1 := by simp
  generalize w.alloc (Obj.cells #[.int .i64 0, .int .u64 0, .int .u64 0, .int .u64 0, .slice none 0 0, .int .i64 0, .bool false, .int .i64 0, .bool false, .int .u64 0] 31) = wa at hG hO hz ⊢
  generalize hGe : w.heap.size = G at hG hz ⊢
  have hG0 : w.heap.size ≤ G := by omega
  go_wp2_with fail
  refine (rfrom_at wa s hs).mono ?_
  rintro e wb ⟨rfl, hR, hO1⟩
  have hG := hG.keeps hO1 (fun h => h)
  have hO := hO.trans hO1
  have hGp : G ≠ wa.heap.size := by omega
  have hp0 : w.heap.size ≤ wa.heap.size := by omega
  generalize wa.heap.size = p at hR hGp hp0 ⊢
  generalize hq0 : (Pk.RD.mk (nums s) false) = q0 at hR HS
  have HZ := Lib.hid hGe
  clear hO1 hz hGe hq0

  go_wp2_with fail
  refine (rup_at wb p q0 hR 5 (by omega)).mono ?_
  rintro e w1 ⟨rfl, hR1, hO1⟩
  have hk5 : (q0.up 5).1 ≤ 5 := Pk.up_fst
  generalize (q0.up 5).1 = kd at hk5 HS ⊢
  generalize (q0.up 5).2 = q1 at hR1 HS
  have hG1 := hG.keeps hO1 (fun e => hGp e)
  have hO1' := hO.andThen hO1 (fun k hk h => by have h' : k = p := h; omega)
  clear hO1 hR hG hO
  go_upto_region 3 with fail
  have hB := Blk.made w1 #[.int .i64 (kd : Int), .int .u64 0, .int .u64 0, .int .u64 0, .slice none 0 0, .int .i64 0, .bool false, .int .i64 0, .bool false, .int .u64 0] 31
  have hA := (Only.refl NoBlock w1).alloc (Obj.cells #[.int .i64 (kd : Int), .int .u64 0, .int .u64 0, .int .u64 0, .slice none 0 0, .int .i64 0, .bool false, .int .i64 0, .bool false, .int .u64 0] 31)
  have hSp : w1.heap.size ≠ p := by have := hR1.1.lt; omega
  have hSG : w1.heap.size ≠ G := by have := hG1.lt; omega
  have hS0 : w.heap.size ≤ w1.heap.size := hO1'.size
  have hR2 := hR1.keeps hA (fun h => h)
  have hG2 := hG1.keeps hA (fun h => h)
  have hO2 := hO1'.trans hA
  generalize w1.alloc (Obj.cells #[.int .i64 (kd : Int), .int .u64 0, .int .u64 0, .int .u64 0, .slice none 0 0, .int .i64 0, .bool false, .int .i64 0, .bool false, .int .u64 0] 31) = w2 at hB hR2 hG2 hO2 ⊢
  generalize w1.heap.size = S at hB hSp hSG hS0 ⊢
  clear hR1 hG1 hO1' hA
  go_wp2_with fail
  refine (rnum_at w2 p q1 hR2).mono ?_
  rintro e w3 ⟨rfl, hR3, hO3⟩
  have hva := Pk.numV_lt hR2.2.1
  generalize Pk.numV q1.s = a at hva HS ⊢
  generalize Pk.numR q1 = q2 at hR3 HS
  have hB3 := hB.keeps hO3 hSp
  have hG3 := hG2.keeps hO3 hGp
  have hX3 := hO2.andThen hO3 (fun k hk h => by have h' : k = p := h; omega)
  have c1 := hB3.cell 1
  have f1 := hB3.free 1
  simp only [List.getElem?_toArray, List.getElem?_cons_succ, List.getElem?_cons_zero] at c1
  clear hR2 hO2 hG2 hB hO3
  go_upto_region 4 with fail
  have hY := (Only.refl (fun k => k = S) w3).setCell (p := ⟨S, 1, none⟩) (fun _ => rfl) (.int .u64 (a : Int))
  have hB4 : Blk (w3.setCell ⟨S, 1, none⟩ (.int .u64 (a : Int))) S #[.int .i64 (kd : Int), .int .u64 (a : Int), .int .u64 0, .int .u64 0, .slice none 0 0, .int .i64 0, .bool false, .int .i64 0, .bool false, .int .u64 0] 31 := hB3.setCell 1 (.int .u64 (a : Int))
  have hR4 := hR3.keeps hY (fun e => hSp e.symm)
  have hG4 := hG3.keeps hY (fun e => hSG e.symm)
  have hO4 := hX3.setCell (p := ⟨S, 1, none⟩) (fun h => by have h' : S < w.heap.size := h; omega) (.int .u64 (a : Int))
  generalize w3.setCell ⟨S, 1, none⟩ (.int .u64 (a : Int)) = w4 at hB4 hR4 hG4 hO4 ⊢
  clear hR3 hG3 hX3 hB3 hY c1 f1
  go_wp2_with fail
  refine (rnum_at w4 p q2 hR4).mono ?_
  rintro e w5 ⟨rfl, hR5, hO5⟩
  have hvb := Pk.numV_lt hR4.2.1
  generalize Pk.numV q2.s = b at hvb HS ⊢
  generalize Pk.numR q2 = q3 at hR5 HS
  have hB5 := hB4.keeps hO5 hSp
  have hG5 := hG4.keeps hO5 hGp
  have hX5 := hO4.andThen hO5 (fun k hk h => by have h' : k = p := h; omega)
  have c2 := hB5.cell 2
  have f2 := hB5.free 2
  simp only [List.getElem?_toArray, List.getElem?_cons_succ, List.getElem?_cons_zero] at c2
  clear hR4 hO4 hG4 hB4 hO5
  go_upto_region 5 with fail
  have hY := (Only.refl (fun k => k = S) w5).setCell (p := ⟨S, 2, none⟩) (fun _ => rfl) (.int .u64 (b : Int))
  have hB6 : Blk (w5.setCell ⟨S, 2, none⟩ (.int .u64 (b : Int))) S #[.int .i64 (kd : Int), .int .u64 (a : Int), .int .u64 (b : Int), .int .u64 0, .slice none 0 0, .int .i64 0, .bool false, .int .i64 0, .bool false, .int .u64 0] 31 := hB5.setCell 2 (.int .u64 (b : Int))
  have hR6 := hR5.keeps hY (fun e => hSp e.symm)
  have hG6 := hG5.keeps hY (fun e => hSG e.symm)
  have hO6 := hX5.setCell (p := ⟨S, 2, none⟩) (fun h => by have h' : S < w.heap.size := h; omega) (.int .u64 (b : Int))
  generalize w5.setCell ⟨S, 2, none⟩ (.int .u64 (b : Int)) = w6 at hB6 hR6 hG6 hO6 ⊢
  clear hR5 hG5 hX5 hB5 hY c2 f2
  go_wp2_with fail
  refine (rnum_at w6 p q3 hR6).mono ?_
  rintro e w7 ⟨rfl, hR7, hO7⟩
  have hvc := Pk.numV_lt hR6.2.1
  generalize Pk.numV q3.s = c at hvc HS ⊢
  generalize Pk.numR q3 = q4 at hR7 HS
  have hB7 := hB6.keeps hO7 hSp
  have hG7 := hG6.keeps hO7 hGp
  have hX7 := hO6.andThen hO7 (fun k hk h => by have h' : k = p := h; omega)
  have c3 := hB7.cell 3
  have f3 := hB7.free 3
  simp only [List.getElem?_toArray, List.getElem?_cons_succ, List.getElem?_cons_zero] at c3
  clear hR6 hO6 hG6 hB6 hO7
  go_upto_region 6 with fail
  have hY := (Only.refl (fun k => k = S) w7).setCell (p := ⟨S, 3, none⟩) (fun _ => rfl) (.int .u64 (c : Int))
  have hB8 : Blk (w7.setCell ⟨S, 3, none⟩ (.int .u64 (c : Int))) S #[.int .i64 (kd : Int), .int .u64 (a : Int), .int .u64 (b : Int), .int .u64 (c : Int), .slice none 0 0, .int .i64 0, .bool false, .int .i64 0, .bool false, .int .u64 0] 31 := hB7.setCell 3 (.int .u64 (c : Int))
  have hR8 := hR7.keeps hY (fun e => hSp e.symm)
  have hG8 := hG7.keeps hY (fun e => hSG e.symm)
  have hO8 := hX7.setCell (p := ⟨S, 3, none⟩) (fun h => by have h' : S < w.heap.size := h; omega) (.int .u64 (c : Int))
  generalize w7.setCell ⟨S, 3, none⟩ (.int .u64 (c : Int)) = w8 at hB8 hR8 hG8 hO8 ⊢
  clear hR7 hG7 hX7 hB7 hY c3 f3
  go_wp2_with fail
  refine (rnum_at w8 p q4 hR8).mono ?_
  rintro e w9 ⟨rfl, hR9, hO9⟩
  have hvnow := Pk.numV_lt hR8.2.1
  generalize Pk.numV q4.s = now at hvnow HS ⊢
  generalize Pk.numR q4 = q5 at hR9 HS
  have hB9 := hB8.keeps hO9 hSp
  have hG9 := hG8.keeps hO9 hGp
  have hX9 := hO8.andThen hO9 (fun k hk h => by have h' : k = p := h; omega)
  have c9 := hB9.cell 9
  have f9 := hB9.free 9
  simp only [List.getElem?_toArray, List.getElem?_cons_succ, List.getElem?_cons_zero] at c9
  clear hR8 hO8 hG8 hB8 hO9
  go_upto_region 7 with fail
  have hY := (Only.refl (fun k => k = S) w9).setCell (p := ⟨S, 9, none⟩) (fun _ => rfl) (.int .u64 (now : Int))
  have hB10 : Blk (w9.setCell ⟨S, 9, none⟩ (.int .u64 (now : Int))) S #[.int .i64 (kd : Int), .int .u64 (a : Int), .int .u64 (b : Int), .int .u64 (c : Int), .slice none 0 0, .int .i64 0, .bool false, .int .i64 0, .bool false, .int .u64 (now : Int)] 31 := hB9.setCell 9 (.int .u64 (now : Int))
  have hR10 := hR9.keeps hY (fun e => hSp e.symm)
  have hG10 := hG9.keeps hY (fun e => hSG e.symm)
  have hO10 := hX9.setCell (p := ⟨S, 9, none⟩) (fun h => by have h' : S < w.heap.size := h; omega) (.int .u64 (now : Int))
  generalize w9.setCell ⟨S, 9, none⟩ (.int .u64 (now : Int)) = w10 at hB10 hR10 hG10 hO10 ⊢
  clear hR9 hG9 hX9 hB9 hY c9 f9
  have c0 := hB10.cell 0
  simp only [List.getElem?_toArray, List.getElem?_cons_zero] at c0
  by_cases k2 : kd = 2
  · subst k2
    have ht := HS.out
    unfold Pk.rdT at ht
    rw [if_pos rfl] at ht
    have HS2 := Lib.hid ht
    clear ht HS hk5
    have HS := HS2
    clear HS2
    have d2 : (((2 : Nat) : Int) == 2) = true := rfl
    go_wp2_with fail
    refine (planread_at w10 p q5 hR10).mono ?_
    rintro e w11 ⟨ao, cap, rfl, hrow, hR11, hO11⟩
    have hsm := rdSs_small q5
    generalize (Pk.rdSs q5).1 = l at hrow hsm HS ⊢
    generalize (Pk.rdSs q5).2 = q6 at hR11 HS
    have hB11 := hB10.keeps hO11 hSp
    have hG11 := hG10.keeps hO11 hGp
    have hX11 := hO10.andThen hO11 (fun k hk h => by have h' : k = p := h; omega)
    have c4 := hB11.cell 4
    have f4 := hB11.free 4
    simp only [List.getElem?_toArray, List.getElem?_cons_succ, List.getElem?_cons_zero] at c4
    clear hR10 hO10 hG10 hB10 hO11
    go_upto_region 15 with fail
    have hY := (Only.refl (fun k => k = S) w11).setCell (p := ⟨S, 4, none⟩) (fun _ => rfl) (.slice ao l.length cap)
    have hB12 : Blk (w11.setCell ⟨S, 4, none⟩ (.slice ao l.length cap)) S #[.int .i64 ((2 : Nat) : Int), .int .u64 (a : Int), .int .u64 (b : Int), .int .u64 (c : Int), .slice ao l.length cap, .int .i64 0, .bool false, .int .i64 0, .bool false, .int .u64 (now : Int)] 31 := hB11.setCell 4 (.slice ao l.length cap)
    have hR12 := hR11.keeps hY (fun e => hSp e.symm)
    have hG12 := hG11.keeps hY (fun e => hSG e.symm)
    have hO12 := hX11.setCell (p := ⟨S, 4, none⟩) (fun h => by have h' : S < w.heap.size := h; omega) (.slice ao l.length cap)
    have hrow' := hrow.keepsT hY (fun k hk => by subst hk; exact fun ht => ht.ne_blk hB11 (by decide) rfl)
    clear hrow
    have hrow := hrow'
    clear hrow'
    generalize w11.setCell ⟨S, 4, none⟩ (.slice ao l.length cap) = w12 at hB12 hR12 hG12 hO12 hrow ⊢
    clear hR11 hG11 hX11 hB11 hY c4 f4
    have HT := HS
    clear HS c0
    go_wp2_with fail
    refine (rdone_at w12 p q6 hR12).mono ?_
    rintro e wd ⟨rfl, m, rfl⟩
    have hN := (Only.refl NoBlock w12).drewN m
    have hBd := hB12.keeps hN (fun h => h)
    have hGd := hG12.keeps hN (fun h => h)
    have hOd := hO12.trans hN
    have hrowd := (hrow).keepsN hN
    generalize w12.drewN m = wd at hBd hGd hOd hrowd ⊢
    clear hR12 hG12 hO12 hN hB12 hrow
    have c0 := hBd.cell 0
    have c1 := hBd.cell 1
    have c2 := hBd.cell 2
    have c3 := hBd.cell 3
    have c4 := hBd.cell 4
    have c5 := hBd.cell 5
    have c6 := hBd.cell 6
    have c7 := hBd.cell 7
    have c8 := hBd.cell 8
    have c9 := hBd.cell 9
    simp only [List.getElem?_toArray, List.getElem?_cons_succ, List.getElem?_cons_zero] at c0 c1 c2 c3 c4 c5 c6 c7 c8 c9
    cases hdn : q6.done with
    | false =>
      have HR : RowKit.Hid (Pk.dec (nums s) = none) := Lib.hid (by rw [HD.out, HT.out, if_neg (by simp [hdn])])
      clear hdn
      have g0 := hGd.cell 0
      have u0 := hGd.free 0
      have g1 := hGd.cell 1
      have u1 := hGd.free 1
      have g2 := hGd.cell 2
      have u2 := hGd.free 2
      have g3 := hGd.cell 3
      have u3 := hGd.free 3
      have g4 := hGd.cell 4
      have u4 := hGd.free 4
      have g5 := hGd.cell 5
      have u5 := hGd.free 5
      have g6 := hGd.cell 6
      have u6 := hGd.free 6
      have g7 := hGd.cell 7
      have u7 := hGd.free 7
      have g8 := hGd.cell 8
      have u8 := hGd.free 8
      have g9 := hGd.cell 9
      have u9 := hGd.free 9
      simp only [List.getElem?_toArray, List.getElem?_cons_succ, List.getElem?_cons_zero] at g0 g1 g2 g3 g4 g5 g6 g7 g8 g9
      go_wp2_with fail
      have hV := sets_blk hGd [.int .i64 0, .int .u64 0, .int .u64 0, .int .u64 0, .slice none 0 0, .int .i64 0, .bool false, .int .i64 0, .bool false, .int .u64 0] rfl
      have hW := sets_only hOd (fun h => by have h' : G < w.heap.size := h; omega) [.int .i64 0, .int .u64 0, .int .u64 0, .int .u64 0, .slice none 0 0, .int .i64 0, .bool false, .int .i64 0, .bool false, .int .u64 0] 0
      have hW2 := sets_only (S := fun k => k = G) (Only.refl _ wd) (fun _ => rfl) [.int .i64 0, .int .u64 0, .int .u64 0, .int .u64 0, .slice none 0 0, .int .i64 0, .bool false, .int .i64 0, .bool false, .int .u64 0] 0
      simp only [sets] at hV hW hW2
      refine bodyPost_ret (results_cell_tmp (P := Try.prog) rfl _ _ G _ _ _ _ rfl hV HFS.out rfl size_cmd) rfl ?_
      exact ⟨hW, .inr ⟨HR.out, rfl⟩⟩
    | true =>
      have HDN := Lib.hid hdn
      clear hdn
      go_wp2_with fail
      refine (maycmd_at wd ⟨2, a, b, c, l, 0, false, 0, false, now⟩ ao cap (hsm) hrowd).mono ?_
      rintro e we ⟨rfl, hOm⟩
      have hBe := hBd.keeps hOm (fun h => h)
      have hGe := hGd.keeps hOm (fun h => h)
      have hOe := hOd.trans hOm
      have hrowe := hrowd.keepsN hOm
      clear hBd hGd hOd hrowd hOm c0 c1 c2 c3 c4 c5 c6 c7 c8 c9
      have c0 := hBe.cell 0
      have c1 := hBe.cell 1
      have c2 := hBe.cell 2
      have c3 := hBe.cell 3
      have c4 := hBe.cell 4
      have c5 := hBe.cell 5
      have c6 := hBe.cell 6
      have c7 := hBe.cell 7
      have c8 := hBe.cell 8
      have c9 := hBe.cell 9
      simp only [List.getElem?_toArray, List.getElem?_cons_succ, List.getElem?_cons_zero] at c0 c1 c2 c3 c4 c5 c6 c7 c8 c9
      cases hmy : Pk.may ⟨2, a, b, c, l, 0, false, 0, false, now⟩ with
      | false =>
        have HR : RowKit.Hid (Pk.dec (nums s) = none) := Lib.hid (by rw [HD.out, HT.out, if_neg (by simp [hmy])])
        clear hmy
        have g0 := hGe.cell 0
        have u0 := hGe.free 0
        have g1 := hGe.cell 1
        have u1 := hGe.free 1
        have g2 := hGe.cell 2
        have u2 := hGe.free 2
        have g3 := hGe.cell 3
        have u3 := hGe.free 3
        have g4 := hGe.cell 4
        have u4 := hGe.free 4
        have g5 := hGe.cell 5
        have u5 := hGe.free 5
        have g6 := hGe.cell 6
        have u6 := hGe.free 6
        have g7 := hGe.cell 7
        have u7 := hGe.free 7
        have g8 := hGe.cell 8
        have u8 := hGe.free 8
        have g9 := hGe.cell 9
        have u9 := hGe.free 9
        simp only [List.getElem?_toArray, List.getElem?_cons_succ, List.getElem?_cons_zero] at g0 g1 g2 g3 g4 g5 g6 g7 g8 g9
        go_wp2_with fail
        have hV := sets_blk hGe [.int .i64 0, .int .u64 0, .int .u64 0, .int .u64 0, .slice none 0 0, .int .i64 0, .bool false, .int .i64 0, .bool false, .int .u64 0] rfl
        have hW := sets_only hOe (fun h => by have h' : G < w.heap.size := h; omega) [.int .i64 0, .int .u64 0, .int .u64 0, .int .u64 0, .slice none 0 0, .int .i64 0, .bool false, .int .i64 0, .bool false, .int .u64 0] 0
        have hW2 := sets_only (S := fun k => k = G) (Only.refl _ we) (fun _ => rfl) [.int .i64 0, .int .u64 0, .int .u64 0, .int .u64 0, .slice none 0 0, .int .i64 0, .bool false, .int .i64 0, .bool false, .int .u64 0] 0
        simp only [sets] at hV hW hW2
        refine bodyPost_ret (results_cell_tmp (P := Try.prog) rfl _ _ G _ _ _ _ rfl hV HFS.out rfl size_cmd) rfl ?_
        exact ⟨hW, .inr ⟨HR.out, rfl⟩⟩
      | true =>
        have HR : RowKit.Hid (Pk.dec (nums s) = some ⟨2, a, b, c, l, 0, false, 0, false, now⟩) := Lib.hid (by rw [HD.out, HT.out, if_pos ⟨HDN.out, hmy⟩])
        clear hmy
        have g0 := hGe.cell 0
        have u0 := hGe.free 0
        have g1 := hGe.cell 1
        have u1 := hGe.free 1
        have g2 := hGe.cell 2
        have u2 := hGe.free 2
        have g3 := hGe.cell 3
        have u3 := hGe.free 3
        have g4 := hGe.cell 4
        have u4 := hGe.free 4
        have g5 := hGe.cell 5
        have u5 := hGe.free 5
        have g6 := hGe.cell 6
        have u6 := hGe.free 6
        have g7 := hGe.cell 7
        have u7 := hGe.free 7
        have g8 := hGe.cell 8
        have u8 := hGe.free 8
        have g9 := hGe.cell 9
        have u9 := hGe.free 9
        simp only [List.getElem?_toArray, List.getElem?_cons_succ, List.getElem?_cons_zero] at g0 g1 g2 g3 g4 g5 g6 g7 g8 g9
        go_wp2_with fail
        have hV := sets_blk hGe [.int .i64 ((2 : Nat) : Int), .int .u64 (a : Int), .int .u64 (b : Int), .int .u64 (c : Int), .slice ao l.length cap, .int .i64 0, .bool false, .int .i64 0, .bool false, .int .u64 (now : Int)] rfl
        have hW := sets_only hOe (fun h => by have h' : G < w.heap.size := h; omega) [.int .i64 ((2 : Nat) : Int), .int .u64 (a : Int), .int .u64 (b : Int), .int .u64 (c : Int), .slice ao l.length cap, .int .i64 0, .bool false, .int .i64 0, .bool false, .int .u64 (now : Int)] 0
        have hW2 := sets_only (S := fun k => k = G) (Only.refl _ we) (fun _ => rfl) [.int .i64 ((2 : Nat) : Int), .int .u64 (a : Int), .int .u64 (b : Int), .int .u64 (c : Int), .slice ao l.length cap, .int .i64 0, .bool false, .int .i64 0, .bool false, .int .u64 (now : Int)] 0
        simp only [sets] at hV hW hW2
        refine bodyPost_ret (results_cell_tmp (P := Try.prog) rfl _ _ G _ _ _ _ rfl hV HFS.out rfl size_cmd) rfl ?_
        exact ⟨hW, .inl ⟨⟨2, a, b, c, l, 0, false, 0, false, now⟩, ao, cap, HR.out, hsm, rfl, hrowe.keepsT hW2 (fun k hk => by subst hk; exact fun ht => ht.ne_blk hGe (by decide) rfl)⟩⟩
  by_cases k4 : kd = 4
  · subst k4
    have ht := HS.out
    unfold Pk.rdT at ht
    rw [if_neg (by decide), if_pos rfl] at ht
    have HS2 := Lib.hid ht
    clear ht HS hk5 k2
    have HS := HS2
    clear HS2
    go_wp2_with fail
    refine (rup_at w10 p q5 hR10 64 (by omega)).mono ?_
    rintro e w11 ⟨rfl, hR11, hO11⟩
    have hvst : (q5.up 64).1 ≤ 64 := Pk.up_fst
    generalize (q5.up 64).1 = st at hvst HS ⊢
    generalize (q5.up 64).2 = q6 at hR11 HS
    have hB11 := hB10.keeps hO11 hSp
    have hG11 := hG10.keeps hO11 hGp
    have hX11 := hO10.andThen hO11 (fun k hk h => by have h' : k = p := h; omega)
    have c5 := hB11.cell 5
    have f5 := hB11.free 5
    simp only [List.getElem?_toArray, List.getElem?_cons_succ, List.getElem?_cons_zero] at c5
    clear hR10 hO10 hG10 hB10 hO11
    go_upto_region 12 with fail
    have hY := (Only.refl (fun k => k = S) w11).setCell (p := ⟨S, 5, none⟩) (fun _ => rfl) (.int .i64 (st : Int))
    have hB12 : Blk (w11.setCell ⟨S, 5, none⟩ (.int .i64 (st : Int))) S #[.int .i64 ((4 : Nat) : Int), .int .u64 (a : Int), .int .u64 (b : Int), .int .u64 (c : Int), .slice none 0 0, .int .i64 (st : Int), .bool false, .int .i64 0, .bool false, .int .u64 (now : Int)] 31 := hB11.setCell 5 (.int .i64 (st : Int))
    have hR12 := hR11.keeps hY (fun e => hSp e.symm)
    have hG12 := hG11.keeps hY (fun e => hSG e.symm)
    have hO12 := hX11.setCell (p := ⟨S, 5, none⟩) (fun h => by have h' : S < w.heap.size := h; omega) (.int .i64 (st : Int))
    generalize w11.setCell ⟨S, 5, none⟩ (.int .i64 (st : Int)) = w12 at hB12 hR12 hG12 hO12 ⊢
    clear hR11 hG11 hX11 hB11 hY c5 f5
    go_wp2_with fail
    refine (rbool_at w12 p q6 hR12).mono ?_
    rintro e w13 ⟨rfl, hR13, hO13⟩
    generalize decide ((q6.up 1).1 = 1) = bk at HS ⊢
    generalize (q6.up 1).2 = q7 at hR13 HS
    have hB13 := hB12.keeps hO13 hSp
    have hG13 := hG12.keeps hO13 hGp
    have hX13 := hO12.andThen hO13 (fun k hk h => by have h' : k = p := h; omega)
    have c6 := hB13.cell 6
    have f6 := hB13.free 6
    simp only [List.getElem?_toArray, List.getElem?_cons_succ, List.getElem?_cons_zero] at c6
    clear hR12 hO12 hG12 hB12 hO13
    go_upto_region 13 with fail
    have hY := (Only.refl (fun k => k = S) w13).setCell (p := ⟨S, 6, none⟩) (fun _ => rfl) (.bool bk)
    have hB14 : Blk (w13.setCell ⟨S, 6, none⟩ (.bool bk)) S #[.int .i64 ((4 : Nat) : Int), .int .u64 (a : Int), .int .u64 (b : Int), .int .u64 (c : Int), .slice none 0 0, .int .i64 (st : Int), .bool bk, .int .i64 0, .bool false, .int .u64 (now : Int)] 31 := hB13.setCell 6 (.bool bk)
    have hR14 := hR13.keeps hY (fun e => hSp e.symm)
    have hG14 := hG13.keeps hY (fun e => hSG e.symm)
    have hO14 := hX13.setCell (p := ⟨S, 6, none⟩) (fun h => by have h' : S < w.heap.size := h; omega) (.bool bk)
    generalize w13.setCell ⟨S, 6, none⟩ (.bool bk) = w14 at hB14 hR14 hG14 hO14 ⊢
    clear hR13 hG13 hX13 hB13 hY c6 f6
    go_wp2_with fail
    refine (rup_at w14 p q7 hR14 9 (by omega)).mono ?_
    rintro e w15 ⟨rfl, hR15, hO15⟩
    have hvtr : (q7.up 9).1 ≤ 9 := Pk.up_fst
    generalize (q7.up 9).1 = tr at hvtr HS ⊢
    generalize (q7.up 9).2 = q8 at hR15 HS
    have hB15 := hB14.keeps hO15 hSp
    have hG15 := hG14.keeps hO15 hGp
    have hX15 := hO14.andThen hO15 (fun k hk h => by have h' : k = p := h; omega)
    have c7 := hB15.cell 7
    have f7 := hB15.free 7
    simp only [List.getElem?_toArray, List.getElem?_cons_succ, List.getElem?_cons_zero] at c7
    clear hR14 hO14 hG14 hB14 hO15
    go_upto_region 14 with fail
    have hY := (Only.refl (fun k => k = S) w15).setCell (p := ⟨S, 7, none⟩) (fun _ => rfl) (.int .i64 (tr : Int))
    have hB16 : Blk (w15.setCell ⟨S, 7, none⟩ (.int .i64 (tr : Int))) S #[.int .i64 ((4 : Nat) : Int), .int .u64 (a : Int), .int .u64 (b : Int), .int .u64 (c : Int), .slice none 0 0, .int .i64 (st : Int), .bool bk, .int .i64 (tr : Int), .bool false, .int .u64 (now : Int)] 31 := hB15.setCell 7 (.int .i64 (tr : Int))
    have hR16 := hR15.keeps hY (fun e => hSp e.symm)
    have hG16 := hG15.keeps hY (fun e => hSG e.symm)
    have hO16 := hX15.setCell (p := ⟨S, 7, none⟩) (fun h => by have h' : S < w.heap.size := h; omega) (.int .i64 (tr : Int))
    generalize w15.setCell ⟨S, 7, none⟩ (.int .i64 (tr : Int)) = w16 at hB16 hR16 hG16 hO16 ⊢
    clear hR15 hG15 hX15 hB15 hY c7 f7
    go_wp2_with fail
    refine (rbool_at w16 p q8 hR16).mono ?_
    rintro e w17 ⟨rfl, hR17, hO17⟩
    generalize decide ((q8.up 1).1 = 1) = ok at HS ⊢
    generalize (q8.up 1).2 = q9 at hR17 HS
    have hB17 := hB16.keeps hO17 hSp
    have hG17 := hG16.keeps hO17 hGp
    have hX17 := hO16.andThen hO17 (fun k hk h => by have h' : k = p := h; omega)
    have c8 := hB17.cell 8
    have f8 := hB17.free 8
    simp only [List.getElem?_toArray, List.getElem?_cons_succ, List.getElem?_cons_zero] at c8
    clear hR16 hO16 hG16 hB16 hO17
    go_upto_region 15 with fail
    have hY := (Only.refl (fun k => k = S) w17).setCell (p := ⟨S, 8, none⟩) (fun _ => rfl) (.bool ok)
    have hB18 : Blk (w17.setCell ⟨S, 8, none⟩ (.bool ok)) S #[.int .i64 ((4 : Nat) : Int), .int .u64 (a : Int), .int .u64 (b : Int), .int .u64 (c : Int), .slice none 0 0, .int .i64 (st : Int), .bool bk, .int .i64 (tr : Int), .bool ok, .int .u64 (now : Int)] 31 := hB17.setCell 8 (.bool ok)
    have hR18 := hR17.keeps hY (fun e => hSp e.symm)
    have hG18 := hG17.keeps hY (fun e => hSG e.symm)
    have hO18 := hX17.setCell (p := ⟨S, 8, none⟩) (fun h => by have h' : S < w.heap.size := h; omega) (.bool ok)
    generalize w17.setCell ⟨S, 8, none⟩ (.bool ok) = w18 at hB18 hR18 hG18 hO18 ⊢
    clear hR17 hG17 hX17 hB17 hY c8 f8
    have HT := HS
    clear HS c0
    go_wp2_with fail
    refine (rdone_at w18 p q9 hR18).mono ?_
    rintro e wd ⟨rfl, m, rfl⟩
    have hN := (Only.refl NoBlock w18).drewN m
    have hBd := hB18.keeps hN (fun h => h)
    have hGd := hG18.keeps hN (fun h => h)
    have hOd := hO18.trans hN
    have hrowd := (RowIn.nil (K := stpK) (E := 38) w18).keepsN hN
    generalize w18.drewN m = wd at hBd hGd hOd hrowd ⊢
    clear hR18 hG18 hO18 hN hB18
    have c0 := hBd.cell 0
    have c1 := hBd.cell 1
    have c2 := hBd.cell 2
    have c3 := hBd.cell 3
    have c4 := hBd.cell 4
    have c5 := hBd.cell 5
    have c6 := hBd.cell 6
    have c7 := hBd.cell 7
    have c8 := hBd.cell 8
    have c9 := hBd.cell 9
    simp only [List.getElem?_toArray, List.getElem?_cons_succ, List.getElem?_cons_zero] at c0 c1 c2 c3 c4 c5 c6 c7 c8 c9
    cases hdn : q9.done with
    | false =>
      have HR : RowKit.Hid (Pk.dec (nums s) = none) := Lib.hid (by rw [HD.out, HT.out, if_neg (by simp [hdn])])
      clear hdn
      have g0 := hGd.cell 0
      have u0 := hGd.free 0
      have g1 := hGd.cell 1
      have u1 := hGd.free 1
      have g2 := hGd.cell 2
      have u2 := hGd.free 2
      have g3 := hGd.cell 3
      have u3 := hGd.free 3
      have g4 := hGd.cell 4
      have u4 := hGd.free 4
      have g5 := hGd.cell 5
      have u5 := hGd.free 5
      have g6 := hGd.cell 6
      have u6 := hGd.free 6
      have g7 := hGd.cell 7
      have u7 := hGd.free 7
      have g8 := hGd.cell 8
      have u8 := hGd.free 8
      have g9 := hGd.cell 9
      have u9 := hGd.free 9
      simp only [List.getElem?_toArray, List.getElem?_cons_succ, List.getElem?_cons_zero] at g0 g1 g2 g3 g4 g5 g6 g7 g8 g9
      go_wp2_with fail
      have hV := sets_blk hGd [.int .i64 0, .int .u64 0, .int .u64 0, .int .u64 0, .slice none 0 0, .int .i64 0, .bool false, .int .i64 0, .bool false, .int .u64 0] rfl
      have hW := sets_only hOd (fun h => by have h' : G < w.heap.size := h; omega) [.int .i64 0, .int .u64 0, .int .u64 0, .int .u64 0, .slice none 0 0, .int .i64 0, .bool false, .int .i64 0, .bool false, .int .u64 0] 0
      have hW2 := sets_only (S := fun k => k = G) (Only.refl _ wd) (fun _ => rfl) [.int .i64 0, .int .u64 0, .int .u64 0, .int .u64 0, .slice none 0 0, .int .i64 0, .bool false, .int .i64 0, .bool false, .int .u64 0] 0
      simp only [sets] at hV hW hW2
      refine bodyPost_ret (results_cell_tmp (P := Try.prog) rfl _ _ G _ _ _ _ rfl hV HFS.out rfl size_cmd) rfl ?_
      exact ⟨hW, .inr ⟨HR.out, rfl⟩⟩
    | true =>
      have HDN := Lib.hid hdn
      clear hdn
      go_wp2_with fail
      refine (maycmd_at wd ⟨4, a, b, c, [], st, bk, tr, ok, now⟩ none 0 (⟨by simp, by simp⟩) hrowd).mono ?_
      rintro e we ⟨rfl, hOm⟩
      have hBe := hBd.keeps hOm (fun h => h)
      have hGe := hGd.keeps hOm (fun h => h)
      have hOe := hOd.trans hOm
      have hrowe := hrowd.keepsN hOm
      clear hBd hGd hOd hrowd hOm c0 c1 c2 c3 c4 c5 c6 c7 c8 c9
      have c0 := hBe.cell 0
      have c1 := hBe.cell 1
      have c2 := hBe.cell 2
      have c3 := hBe.cell 3
      have c4 := hBe.cell 4
      have c5 := hBe.cell 5
      have c6 := hBe.cell 6
      have c7 := hBe.cell 7
      have c8 := hBe.cell 8
      have c9 := hBe.cell 9
      simp only [List.getElem?_toArray, List.getElem?_cons_succ, List.getElem?_cons_zero] at c0 c1 c2 c3 c4 c5 c6 c7 c8 c9
      cases hmy : Pk.may ⟨4, a, b, c, [], st, bk, tr, ok, now⟩ with
      | false =>
        have HR : RowKit.Hid (Pk.dec (nums s) = none) := Lib.hid (by rw [HD.out, HT.out, if_neg (by simp [hmy])])
        clear hmy
        have g0 := hGe.cell 0
        have u0 := hGe.free 0
        have g1 := hGe.cell 1
        have u1 := hGe.free 1
        have g2 := hGe.cell 2
        have u2 := hGe.free 2
        have g3 := hGe.cell 3
        have u3 := hGe.free 3
        have g4 := hGe.cell 4
        have u4 := hGe.free 4
        have g5 := hGe.cell 5
        have u5 := hGe.free 5
        have g6 := hGe.cell 6
        have u6 := hGe.free 6
        have g7 := hGe.cell 7
        have u7 := hGe.free 7
        have g8 := hGe.cell 8
        have u8 := hGe.free 8
        have g9 := hGe.cell 9
        have u9 := hGe.free 9
        simp only [List.getElem?_toArray, List.getElem?_cons_succ, List.getElem?_cons_zero] at g0 g1 g2 g3 g4 g5 g6 g7 g8 g9
        go_wp2_with fail
        have hV := sets_blk hGe [.int .i64 0, .int .u64 0, .int .u64 0, .int .u64 0, .slice none 0 0, .int .i64 0, .bool false, .int .i64 0, .bool false, .int .u64 0] rfl
        have hW := sets_only hOe (fun h => by have h' : G < w.heap.size := h; omega) [.int .i64 0, .int .u64 0, .int .u64 0, .int .u64 0, .slice none 0 0, .int .i64 0, .bool false, .int .i64 0, .bool false, .int .u64 0] 0
        have hW2 := sets_only (S := fun k => k = G) (Only.refl _ we) (fun _ => rfl) [.int .i64 0, .int .u64 0, .int .u64 0, .int .u64 0, .slice none 0 0, .int .i64 0, .bool false, .int .i64 0, .bool false, .int .u64 0] 0
        simp only [sets] at hV hW hW2
        refine bodyPost_ret (results_cell_tmp (P := Try.prog) rfl _ _ G _ _ _ _ rfl hV HFS.out rfl size_cmd) rfl ?_
        exact ⟨hW, .inr ⟨HR.out, rfl⟩⟩
      | true =>
        have HR : RowKit.Hid (Pk.dec (nums s) = some ⟨4, a, b, c, [], st, bk, tr, ok, now⟩) := Lib.hid (by rw [HD.out, HT.out, if_pos ⟨HDN.out, hmy⟩])
        clear hmy
        have g0 := hGe.cell 0
        have u0 := hGe.free 0
        have g1 := hGe.cell 1
        have u1 := hGe.free 1
        have g2 := hGe.cell 2
        have u2 := hGe.free 2
        have g3 := hGe.cell 3
        have u3 := hGe.free 3
        have g4 := hGe.cell 4
        have u4 := hGe.free 4
        have g5 := hGe.cell 5
        have u5 := hGe.free 5
        have g6 := hGe.cell 6
        have u6 := hGe.free 6
        have g7 := hGe.cell 7
        have u7 := hGe.free 7
        have g8 := hGe.cell 8
        have u8 := hGe.free 8
        have g9 := hGe.cell 9
        have u9 := hGe.free 9
        simp only [List.getElem?_toArray, List.getElem?_cons_succ, List.getElem?_cons_zero] at g0 g1 g2 g3 g4 g5 g6 g7 g8 g9
        go_wp2_with fail
        have hV := sets_blk hGe [.int .i64 ((4 : Nat) : Int), .int .u64 (a : Int), .int .u64 (b : Int), .int .u64 (c : Int), .slice none 0 0, .int .i64 (st : Int), .bool bk, .int .i64 (tr : Int), .bool ok, .int .u64 (now : Int)] rfl
        have hW := sets_only hOe (fun h => by have h' : G < w.heap.size := h; omega) [.int .i64 ((4 : Nat) : Int), .int .u64 (a : Int), .int .u64 (b : Int), .int .u64 (c : Int), .slice none 0 0, .int .i64 (st : Int), .bool bk, .int .i64 (tr : Int), .bool ok, .int .u64 (now : Int)] 0
        have hW2 := sets_only (S := fun k => k = G) (Only.refl _ we) (fun _ => rfl) [.int .i64 ((4 : Nat) : Int), .int .u64 (a : Int), .int .u64 (b : Int), .int .u64 (c : Int), .slice none 0 0, .int .i64 (st : Int), .bool bk, .int .i64 (tr : Int), .bool ok, .int .u64 (now : Int)] 0
        simp only [sets] at hV hW hW2
        refine bodyPost_ret (results_cell_tmp (P := Try.prog) rfl _ _ G _ _ _ _ rfl hV HFS.out rfl size_cmd) rfl ?_
        exact ⟨hW, .inl ⟨⟨4, a, b, c, [], st, bk, tr, ok, now⟩, none, 0, HR.out, ⟨by simp, by simp⟩, rfl, hrowe.keepsT hW2 (fun k hk => by subst hk; exact fun ht => ht.ne_blk hGe (by decide) rfl)⟩⟩
  have ht := HS.out
  unfold Pk.rdT at ht
  rw [if_neg k2, if_neg k4] at ht
  have HT := Lib.hid ht
  clear ht HS
  have d2 : ((kd : Int) == 2) = false := by simp; omega
  have d4 : ((kd : Int) == 4) = false := by simp; omega
  clear k2 k4 hk5
  go_upto_region 15 with fail
  clear c0 d2 d4
  go_wp2_with fail
  refine (rdone_at w10 p q5 hR10).mono ?_
  rintro e wd ⟨rfl, m, rfl⟩
  have hN := (Only.refl NoBlock w10).drewN m
  have hBd := hB10.keeps hN (fun h => h)
  have hGd := hG10.keeps hN (fun h => h)
  have hOd := hO10.trans hN
  have hrowd := (RowIn.nil (K := stpK) (E := 38) w10).keepsN hN
  generalize w10.drewN m = wd at hBd hGd hOd hrowd ⊢
  clear hR10 hG10 hO10 hN hB10
  have c0 := hBd.cell 0
  have c1 := hBd.cell 1
  have c2 := hBd.cell 2
  have c3 := hBd.cell 3
  have c4 := hBd.cell 4
  have c5 := hBd.cell 5
  have c6 := hBd.cell 6
  have c7 := hBd.cell 7
  have c8 := hBd.cell 8
  have c9 := hBd.cell 9
  simp only [List.getElem?_toArray, List.getElem?_cons_succ, List.getElem?_cons_zero] at c0 c1 c2 c3 c4 c5 c6 c7 c8 c9
  cases hdn : q5.done with
  | false =>
    have HR : RowKit.Hid (Pk.dec (nums s) = none) := Lib.hid (by rw [HD.out, HT.out, if_neg (by simp [hdn])])
    clear hdn
    have g0 := hGd.cell 0
    have u0 := hGd.free 0
    have g1 := hGd.cell 1
    have u1 := hGd.free 1
    have g2 := hGd.cell 2
    have u2 := hGd.free 2
    have g3 := hGd.cell 3
    have u3 := hGd.free 3
    have g4 := hGd.cell 4
    have u4 := hGd.free 4
    have g5 := hGd.cell 5
    have u5 := hGd.free 5
    have g6 := hGd.cell 6
    have u6 := hGd.free 6
    have g7 := hGd.cell 7
    have u7 := hGd.free 7
    have g8 := hGd.cell 8
    have u8 := hGd.free 8
    have g9 := hGd.cell 9
    have u9 := hGd.free 9
    simp only [List.getElem?_toArray, List.getElem?_cons_succ, List.getElem?_cons_zero] at g0 g1 g2 g3 g4 g5 g6 g7 g8 g9
    go_wp2_with fail
    have hV := sets_blk hGd [.int .i64 0, .int .u64 0, .int .u64 0, .int .u64 0, .slice none 0 0, .int .i64 0, .bool false, .int .i64 0, .bool false, .int .u64 0] rfl
    have hW := sets_only hOd (fun h => by have h' : G < w.heap.size := h; omega) [.int .i64 0, .int .u64 0, .int .u64 0, .int .u64 0, .slice none 0 0, .int .i64 0, .bool false, .int .i64 0, .bool false, .int .u64 0] 0
    have hW2 := sets_only (S := fun k => k = G) (Only.refl _ wd) (fun _ => rfl) [.int .i64 0, .int .u64 0, .int .u64 0, .int .u64 0, .slice none 0 0, .int .i64 0, .bool false, .int .i64 0, .bool false, .int .u64 0] 0
    simp only [sets] at hV hW hW2
    refine bodyPost_ret (results_cell_tmp (P := Try.prog) rfl _ _ G _ _ _ _ rfl hV HFS.out rfl size_cmd) rfl ?_
    exact ⟨hW, .inr ⟨HR.out, rfl⟩⟩
  | true =>
    have HDN := Lib.hid hdn
    clear hdn
    go_wp2_with fail
    refine (maycmd_at wd ⟨kd, a, b, c, [], 0, false, 0, false, now⟩ none 0 (⟨by simp, by simp⟩) hrowd).mono ?_
    rintro e we ⟨rfl, hOm⟩
    have hBe := hBd.keeps hOm (fun h => h)
    have hGe := hGd.keeps hOm (fun h => h)
    have hOe := hOd.trans hOm
    have hrowe := hrowd.keepsN hOm
    clear hBd hGd hOd hrowd hOm c0 c1 c2 c3 c4 c5 c6 c7 c8 c9
    have c0 := hBe.cell 0
    have c1 := hBe.cell 1
    have c2 := hBe.cell 2
    have c3 := hBe.cell 3
    have c4 := hBe.cell 4
    have c5 := hBe.cell 5
    have c6 := hBe.cell 6
    have c7 := hBe.cell 7
    have c8 := hBe.cell 8
    have c9 := hBe.cell 9
    simp only [List.getElem?_toArray, List.getElem?_cons_succ, List.getElem?_cons_zero] at c0 c1 c2 c3 c4 c5 c6 c7 c8 c9
    cases hmy : Pk.may ⟨kd, a, b, c, [], 0, false, 0, false, now⟩ with
    | false =>
      have HR : RowKit.Hid (Pk.dec (nums s) = none) := Lib.hid (by rw [HD.out, HT.out, if_neg (by simp [hmy])])
      clear hmy
      have g0 := hGe.cell 0
      have u0 := hGe.free 0
      have g1 := hGe.cell 1
      have u1 := hGe.free 1
      have g2 := hGe.cell 2
      have u2 := hGe.free 2
      have g3 := hGe.cell 3
      have u3 := hGe.free 3
      have g4 := hGe.cell 4
      have u4 := hGe.free 4
      have g5 := hGe.cell 5
      have u5 := hGe.free 5
      have g6 := hGe.cell 6
      have u6 := hGe.free 6
      have g7 := hGe.cell 7
      have u7 := hGe.free 7
      have g8 := hGe.cell 8
      have u8 := hGe.free 8
      have g9 := hGe.cell 9
      have u9 := hGe.free 9
      simp only [List.getElem?_toArray, List.getElem?_cons_succ, List.getElem?_cons_zero] at g0 g1 g2 g3 g4 g5 g6 g7 g8 g9
      go_wp2_with fail
      have hV := sets_blk hGe [.int .i64 0, .int .u64 0, .int .u64 0, .int .u64 0, .slice none 0 0, .int .i64 0, .bool false, .int .i64 0, .bool false, .int .u64 0] rfl
      have hW := sets_only hOe (fun h => by have h' : G < w.heap.size := h; omega) [.int .i64 0, .int .u64 0, .int .u64 0, .int .u64 0, .slice none 0 0, .int .i64 0, .bool false, .int .i64 0, .bool false, .int .u64 0] 0
      have hW2 := sets_only (S := fun k => k = G) (Only.refl _ we) (fun _ => rfl) [.int .i64 0, .int .u64 0, .int .u64 0, .int .u64 0, .slice none 0 0, .int .i64 0, .bool false, .int .i64 0, .bool false, .int .u64 0] 0
      simp only [sets] at hV hW hW2
      refine bodyPost_ret (results_cell_tmp (P := Try.prog) rfl _ _ G _ _ _ _ rfl hV HFS.out rfl size_cmd) rfl ?_
      exact ⟨hW, .inr ⟨HR.out, rfl⟩⟩
    | true =>
      have HR : RowKit.Hid (Pk.dec (nums s) = some ⟨kd, a, b, c, [], 0, false, 0, false, now⟩) := Lib.hid (by rw [HD.out, HT.out, if_pos ⟨HDN.out, hmy⟩])
      clear hmy
      have g0 := hGe.cell 0
      have u0 := hGe.free 0
      have g1 := hGe.cell 1
      have u1 := hGe.free 1
      have g2 := hGe.cell 2
      have u2 := hGe.free 2
      have g3 := hGe.cell 3
      have u3 := hGe.free 3
      have g4 := hGe.cell 4
      have u4 := hGe.free 4
      have g5 := hGe.cell 5
      have u5 := hGe.free 5
      have g6 := hGe.cell 6
      have u6 := hGe.free 6
      have g7 := hGe.cell 7
      have u7 := hGe.free 7
      have g8 := hGe.cell 8
      have u8 := hGe.free 8
      have g9 := hGe.cell 9
      have u9 := hGe.free 9
      simp only [List.getElem?_toArray, List.getElem?_cons_succ, List.getElem?_cons_zero] at g0 g1 g2 g3 g4 g5 g6 g7 g8 g9
      go_wp2_with fail
      have hV := sets_blk hGe [.int .i64 (kd : Int), .int .u64 (a : Int), .int .u64 (b : Int), .int .u64 (c : Int), .slice none 0 0, .int .i64 0, .bool false, .int .i64 0, .bool false, .int .u64 (now : Int)] rfl
      have hW := sets_only hOe (fun h => by have h' : G < w.heap.size := h; omega) [.int .i64 (kd : Int), .int .u64 (a : Int), .int .u64 (b : Int), .int .u64 (c : Int), .slice none 0 0, .int .i64 0, .bool false, .int .i64 0, .bool false, .int .u64 (now : Int)] 0
      have hW2 := sets_only (S := fun k => k = G) (Only.refl _ we) (fun _ => rfl) [.int .i64 (kd : Int), .int .u64 (a : Int), .int .u64 (b : Int), .int .u64 (c : Int), .slice none 0 0, .int .i64 0, .bool false, .int .i64 0, .bool false, .int .u64 (now : Int)] 0
      simp only [sets] at hV hW hW2
      refine bodyPost_ret (results_cell_tmp (P := Try.prog) rfl _ _ G _ _ _ _ rfl hV HFS.out rfl size_cmd) rfl ?_
      exact ⟨hW, .inl ⟨⟨kd, a, b, c, [], 0, false, 0, false, now⟩, none, 0, HR.out, ⟨by simp, by simp⟩, rfl, hrowe.keepsT hW2 (fun k hk => by subst hk; exact fun ht => ht.ne_blk hGe (by decide) rfl)⟩⟩
end Go.Proofs.Ytogeeeigfhmpmaa
