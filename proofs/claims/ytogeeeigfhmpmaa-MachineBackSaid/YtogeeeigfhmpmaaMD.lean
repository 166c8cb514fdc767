/- What the statements of this seat lean on, part D: what the program's and the document's functions compute, in plain data. -/
import Derived.Test.YtogeeeigfhmpmaaMC
import Derived.BigQuiet
import Derived.Deep.RegionHeld3

/- session.Read: a table from bytes. -/
namespace Go.Proofs.Ytogeeeigfhmpmaa
open Go.RowKit
set_option maxRecDepth 100000

/-- behind the head -/
def Mc.rdTabE (now next n : Nat) (q : Pk.RD) : Option (Mc.Tab × Pk.RD) := match Mc.ldRows now next n [] q with
  | none => none
  | some (l, r') => if r'.bad = true ∨ next = 0 then none else some (⟨now, next, l⟩, r')
theorem lastId_snoc (l : List Mc.Ses) (x : Mc.Ses) : Mc.lastId (l ++ [x]) = x.id := by unfold Mc.lastId; simp
/-- what Read makes of bytes -/
def TabEnd (p : Nat) (r : Pk.RD) (w : World) (e : Ending) (w' : World) : Prop :=
  Only (fun k => k = p) w w' ∧ ((Mc.rdTab r = none ∧ e = .returned (.pointer none)) ∨ ∃ t r' T v, Mc.rdTab r = some (t, r') ∧ e = .returned (.pointer (some ⟨T, 0, none⟩)) ∧ TabAt w' T v t ∧ ReaderAt w' p r' ∧ w.heap.size ≤ T ∧ ∀ k, v.ownBlock = some k → w.heap.size ≤ k)
set_option maxHeartbeats 8000000 in
theorem tabread_at (w : World) (p : Nat) (r : Pk.RD) (h : ReaderAt w p r) :
    Calls Try.prog 47 #[.pointer (some ⟨p, 0, none⟩)] w (TabEnd p r w) := by
  have HS := Lib.hid (show Mc.rdTab r = Mc.rdTabE (Pk.numV r.s) (Pk.numV (Pk.numR r).s) ((Pk.numR (Pk.numR r)).up 16).1 ((Pk.numR (Pk.numR r)).up 16).2 from rfl)
  have hp0 := h.1.lt
  go_enter Try.func47, Try.ntmps47
  go_upto_region 2 with fail
  have hT := Blk.made w #[.int .u64 0, .int .u64 0, .slice none 0 0] 112
  have hO : Only (fun k => k = p) w (w.alloc (Obj.cells #[.int .u64 0, .int .u64 0, .slice none 0 0] 112)) := (Only.refl _ w).alloc _
  have hR := h.keeps ((Only.refl NoBlock w).alloc (Obj.cells #[.int .u64 0, .int .u64 0, .slice none 0 0] 112)) (fun h => h)
  generalize w.alloc (Obj.cells #[.int .u64 0, .int .u64 0, .slice none 0 0] 112) = w0 at hT hO hR ⊢
  generalize hTe : w.heap.size = T at hT ⊢
  have hT0 : w.heap.size ≤ T := by omega
  have hTp : T ≠ p := by omega
  clear hTe h
  go_wp2_with fail
  refine (rnum_at w0 p r hR).mono ?_
  rintro e w1 ⟨rfl, hR1, hO1⟩
  have bnow := Pk.numV_lt hR.2.1
  generalize Pk.numV r.s = now at bnow HS ⊢
  generalize Pk.numR r = r1 at hR1 HS
  have hT1 := hT.keeps hO1 hTp
  have hX1 := hO.trans hO1
  have c0 := hT1.cell 0
  have f0 := hT1.free 0
  simp only [List.getElem?_toArray, List.getElem?_cons_zero] at c0
  clear hR hO hT hO1
  go_upto_region 3 with fail
  have hY := (Only.refl (fun k => k = T) w1).setCell (p := ⟨T, 0, none⟩) (fun _ => rfl) (.int .u64 (now : Int))
  have hT2 : Blk (w1.setCell ⟨T, 0, none⟩ (.int .u64 (now : Int))) T #[.int .u64 (now : Int), .int .u64 0, .slice none 0 0] 112 := hT1.setCell 0 (.int .u64 (now : Int))
  have hR2 := hR1.keeps hY (fun e => hTp e.symm)
  have hO2 := hX1.setCell (p := ⟨T, 0, none⟩) (fun h => by have h' : T < w.heap.size := h; omega) (.int .u64 (now : Int))
  generalize w1.setCell ⟨T, 0, none⟩ (.int .u64 (now : Int)) = w2 at hT2 hR2 hO2 ⊢
  clear hR1 hT1 hX1 hY c0 f0
  go_wp2_with fail
  refine (rnum_at w2 p r1 hR2).mono ?_
  rintro e w3 ⟨rfl, hR3, hO3⟩
  have bnext := Pk.numV_lt hR2.2.1
  generalize Pk.numV r1.s = next at bnext HS ⊢
  generalize Pk.numR r1 = r2 at hR3 HS
  have hT3 := hT2.keeps hO3 hTp
  have hX3 := hO2.trans hO3
  have c1 := hT3.cell 1
  have f1 := hT3.free 1
  simp only [List.getElem?_toArray, List.getElem?_cons_succ, List.getElem?_cons_zero] at c1
  clear hR2 hO2 hT2 hO3
  go_upto_region 4 with fail
  have hY := (Only.refl (fun k => k = T) w3).setCell (p := ⟨T, 1, none⟩) (fun _ => rfl) (.int .u64 (next : Int))
  have hT4 : Blk (w3.setCell ⟨T, 1, none⟩ (.int .u64 (next : Int))) T #[.int .u64 (now : Int), .int .u64 (next : Int), .slice none 0 0] 112 := hT3.setCell 1 (.int .u64 (next : Int))
  have hR4 := hR3.keeps hY (fun e => hTp e.symm)
  have hO4 := hX3.setCell (p := ⟨T, 1, none⟩) (fun h => by have h' : T < w.heap.size := h; omega) (.int .u64 (next : Int))
  generalize w3.setCell ⟨T, 1, none⟩ (.int .u64 (next : Int)) = w4 at hT4 hR4 hO4 ⊢
  clear hR3 hT3 hX3 hY c1 f1
  go_wp2_with fail
  refine (rup_at w4 p r2 hR4 16 (by omega)).mono ?_
  rintro e w5 ⟨rfl, hR5, hO5⟩
  have hn16 : (r2.up 16).1 ≤ 16 := Pk.up_fst
  generalize (r2.up 16).1 = n at HS hn16 ⊢
  generalize (r2.up 16).2 = r3 at hR5 HS
  have hT5 := hT4.keeps hO5 hTp
  have hX5 := hO4.trans hO5
  clear hR4 hO4 hT4 hO5
  go_wp2_with fail
  go_loopw [4, 5] (fun v4 v5 wr => ∃ (k : Nat) (l : List Mc.Ses) (q : Pk.RD) (v : Value), k ≤ n ∧ l.length = n - k ∧ v4 = .int .u64 (Mc.lastId l : Nat) ∧ v5 = .int .i64 k ∧ Blk wr T #[.int .u64 (now : Int), .int .u64 (next : Int), v] 112 ∧ RowAt sesK 58 wr w.heap.size v l ∧ ReaderAt wr p q ∧ Only (fun k => k = p) w wr ∧ RowKit.Hid (Mc.ldRows now next n [] r3 = Mc.ldRows now next k l q)) (fun _ v5 _ => (intOf v5).toNat)
  case atStart => exact ⟨n, [], r3, _, by omega, by simp, rfl, rfl, hT5, RowAt.nil _ _ _ _, hR5, hX5, Lib.hid rfl⟩
  case round =>
    clear hT5 hR5 hX5
    obtain ⟨k, l, q, v, hk, hl, rfl, rfl, hT, hrow, hR, hO, HQ⟩ := hrel
    have HL := Lib.hid hl
    have hlen : l.length ≤ 16 := by omega
    clear hl
    generalize hla : Mc.lastId l = last
    have HLA := Lib.hid hla
    clear hla
    by_cases hk0 : 0 < k
    · obtain ⟨k', rfl⟩ : ∃ k', k = k' + 1 := ⟨k - 1, by omega⟩
      have HQ2 : RowKit.Hid (Mc.ldRows now next n [] r3 = if Mc.okSes now next last (Mc.rdSes q).1 = true then Mc.ldRows now next k' (l ++ [(Mc.rdSes q).1]) (Mc.rdSes q).2 else none) := Lib.hid (by rw [HQ.out, ← HLA.out]; rfl)
      have HE : RowKit.Hid (Mc.rdSes q = (⟨Pk.numV q.s, Pk.numV (Pk.numR q).s, Pk.numV (Pk.numR (Pk.numR q)).s, ⟨(((Pk.numR (Pk.numR (Pk.numR q))).up 52).1 : Int), Pk.numV ((Pk.numR (Pk.numR (Pk.numR q))).up 52).2.s, Pk.numV (Pk.numR ((Pk.numR (Pk.numR (Pk.numR q))).up 52).2).s⟩⟩, Pk.numR (Pk.numR ((Pk.numR (Pk.numR (Pk.numR q))).up 52).2))) := Lib.hid rfl
      clear HQ
      have hpw := hR.1.lt
      have hTw := hT.lt
      have hvp : ∀ j, v.ownBlock = some j → j ≠ p := fun j hj e => (hrow.ofT hj).ne_blk hR.1 (by decide) e
      have hvT : ∀ j, v.ownBlock = some j → j ≠ T := fun j hj e => (hrow.ofT hj).ne_blk hT (by decide) e
      go_wp2_with fail
      refine (rnum_at wr p q hR).mono ?_
      rintro e w6 ⟨rfl, hR6, hO6⟩
      have bxi := Pk.numV_lt hR.2.1
      have hrow6 := hrow.keeps hO6 (fun j hj e => hvp j hj e)
      have hT6 := hT.keeps hO6 hTp
      have hX6 := hO.trans hO6
      generalize Pk.numV q.s = xi at bxi HE ⊢
      generalize Pk.numR q = q1 at hR6 HE
      clear hR hO6 hrow hO hT
      go_upto_region 9 with fail
      have hB := Blk.made w6 #[.int .u64 (xi : Int), .int .u64 0, .int .u64 0, .int .i64 0, .int .u64 0, .int .u64 0] 58
      have hA := (Only.refl NoBlock w6).alloc (Obj.cells #[.int .u64 (xi : Int), .int .u64 0, .int .u64 0, .int .i64 0, .int .u64 0, .int .u64 0] 58)
      have hSp : w6.heap.size ≠ p := by have := hR6.1.lt; omega
      have hST : w6.heap.size ≠ T := by have := hT6.lt; omega
      have hSv : ∀ j, v.ownBlock = some j → j ≠ w6.heap.size := fun j hj e => by have := (hrow6.ofT hj).lt; omega
      have hSw : w.heap.size ≤ w6.heap.size := hX6.size
      have hR7 := hR6.keeps hA (fun h => h)
      have hT7 := hT6.keeps hA (fun h => h)
      have hrow7 := hrow6.keepsN hA
      have hO7 := hX6.trans hA.of_no
      generalize w6.alloc (Obj.cells #[.int .u64 (xi : Int), .int .u64 0, .int .u64 0, .int .i64 0, .int .u64 0, .int .u64 0] 58) = w7 at hB hR7 hT7 hrow7 hO7 ⊢
      generalize w6.heap.size = S at hB hSp hST hSv hSw ⊢
      clear hR6 hrow6 hX6 hA hT6
      go_wp2_with fail
      refine (rnum_at w7 p q1 hR7).mono ?_
      rintro e w8 ⟨rfl, hR8, hO8⟩
      have bxu := Pk.numV_lt hR7.2.1
      generalize Pk.numV q1.s = xu at bxu HE ⊢
      generalize Pk.numR q1 = q2 at hR8 HE
      have hB8 := hB.keeps hO8 hSp
      have hT8 := hT7.keeps hO8 hTp
      have hrow8 := hrow7.keeps hO8 (fun j hj e => hvp j hj e)
      have hX8 := hO7.trans hO8
      have c1 := hB8.cell 1
      have f1 := hB8.free 1
      simp only [List.getElem?_toArray, List.getElem?_cons_succ, List.getElem?_cons_zero] at c1
      clear hR7 hO7 hT7 hB hrow7 hO8
      go_upto_region 10 with fail
      have hY := (Only.refl (fun k => k = S) w8).setCell (p := ⟨S, 1, none⟩) (fun _ => rfl) (.int .u64 (xu : Int))
      have hB9 : Blk (w8.setCell ⟨S, 1, none⟩ (.int .u64 (xu : Int))) S #[.int .u64 (xi : Int), .int .u64 (xu : Int), .int .u64 0, .int .i64 0, .int .u64 0, .int .u64 0] 58 := hB8.setCell 1 (.int .u64 (xu : Int))
      have hR9 := hR8.keeps hY (fun e => hSp e.symm)
      have hT9 := hT8.keeps hY (fun e => hST e.symm)
      have hrow9 := hrow8.keeps hY (fun j hj e => hSv j hj e)
      have hO9 := hX8.setCell (p := ⟨S, 1, none⟩) (fun h => by have h' : S < w.heap.size := h; omega) (.int .u64 (xu : Int))
      generalize w8.setCell ⟨S, 1, none⟩ (.int .u64 (xu : Int)) = w9 at hB9 hR9 hT9 hrow9 hO9 ⊢
      clear hR8 hT8 hX8 hB8 hrow8 hY c1 f1
      go_wp2_with fail
      refine (rnum_at w9 p q2 hR9).mono ?_
      rintro e w10 ⟨rfl, hR10, hO10⟩
      have bxs := Pk.numV_lt hR9.2.1
      generalize Pk.numV q2.s = xs at bxs HE ⊢
      generalize Pk.numR q2 = q3 at hR10 HE
      have hB10 := hB9.keeps hO10 hSp
      have hT10 := hT9.keeps hO10 hTp
      have hrow10 := hrow9.keeps hO10 (fun j hj e => hvp j hj e)
      have hX10 := hO9.trans hO10
      have c2 := hB10.cell 2
      have f2 := hB10.free 2
      simp only [List.getElem?_toArray, List.getElem?_cons_succ, List.getElem?_cons_zero] at c2
      clear hR9 hO9 hT9 hB9 hrow9 hO10
      go_upto_region 11 with fail
      have hY := (Only.refl (fun k => k = S) w10).setCell (p := ⟨S, 2, none⟩) (fun _ => rfl) (.int .u64 (xs : Int))
      have hB11 : Blk (w10.setCell ⟨S, 2, none⟩ (.int .u64 (xs : Int))) S #[.int .u64 (xi : Int), .int .u64 (xu : Int), .int .u64 (xs : Int), .int .i64 0, .int .u64 0, .int .u64 0] 58 := hB10.setCell 2 (.int .u64 (xs : Int))
      have hR11 := hR10.keeps hY (fun e => hSp e.symm)
      have hT11 := hT10.keeps hY (fun e => hST e.symm)
      have hrow11 := hrow10.keeps hY (fun j hj e => hSv j hj e)
      have hO11 := hX10.setCell (p := ⟨S, 2, none⟩) (fun h => by have h' : S < w.heap.size := h; omega) (.int .u64 (xs : Int))
      generalize w10.setCell ⟨S, 2, none⟩ (.int .u64 (xs : Int)) = w11 at hB11 hR11 hT11 hrow11 hO11 ⊢
      clear hR10 hT10 hX10 hB10 hrow10 hY c2 f2
      go_wp2_with fail
      refine (rup_at w11 p q3 hR11 52 (by omega)).mono ?_
      rintro e w12 ⟨rfl, hR12, hO12⟩
      generalize (q3.up 52).1 = ye at HE ⊢
      generalize (q3.up 52).2 = q4 at hR12 HE
      have hB12 := hB11.keeps hO12 hSp
      have hT12 := hT11.keeps hO12 hTp
      have hrow12 := hrow11.keeps hO12 (fun j hj e => hvp j hj e)
      have hX12 := hO11.trans hO12
      have c3 := hB12.cell 3
      have f3 := hB12.free 3
      simp only [List.getElem?_toArray, List.getElem?_cons_succ, List.getElem?_cons_zero] at c3
      clear hR11 hO11 hT11 hB11 hrow11 hO12
      go_upto_region 12 with fail
      have hY := (Only.refl (fun k => k = S) w12).setCell (p := ⟨S, 3, none⟩) (fun _ => rfl) (.int .i64 (ye : Int))
      have hB13 : Blk (w12.setCell ⟨S, 3, none⟩ (.int .i64 (ye : Int))) S #[.int .u64 (xi : Int), .int .u64 (xu : Int), .int .u64 (xs : Int), .int .i64 (ye : Int), .int .u64 0, .int .u64 0] 58 := hB12.setCell 3 (.int .i64 (ye : Int))
      have hR13 := hR12.keeps hY (fun e => hSp e.symm)
      have hT13 := hT12.keeps hY (fun e => hST e.symm)
      have hrow13 := hrow12.keeps hY (fun j hj e => hSv j hj e)
      have hO13 := hX12.setCell (p := ⟨S, 3, none⟩) (fun h => by have h' : S < w.heap.size := h; omega) (.int .i64 (ye : Int))
      generalize w12.setCell ⟨S, 3, none⟩ (.int .i64 (ye : Int)) = w13 at hB13 hR13 hT13 hrow13 hO13 ⊢
      clear hR12 hT12 hX12 hB12 hrow12 hY c3 f3
      go_wp2_with fail
      refine (rnum_at w13 p q4 hR13).mono ?_
      rintro e w14 ⟨rfl, hR14, hO14⟩
      have byn := Pk.numV_lt hR13.2.1
      generalize Pk.numV q4.s = yn at byn HE ⊢
      generalize Pk.numR q4 = q5 at hR14 HE
      have hB14 := hB13.keeps hO14 hSp
      have hT14 := hT13.keeps hO14 hTp
      have hrow14 := hrow13.keeps hO14 (fun j hj e => hvp j hj e)
      have hX14 := hO13.trans hO14
      have c4 := hB14.cell 4
      have f4 := hB14.free 4
      simp only [List.getElem?_toArray, List.getElem?_cons_succ, List.getElem?_cons_zero] at c4
      clear hR13 hO13 hT13 hB13 hrow13 hO14
      go_upto_region 13 with fail
      have hY := (Only.refl (fun k => k = S) w14).setCell (p := ⟨S, 4, none⟩) (fun _ => rfl) (.int .u64 (yn : Int))
      have hB15 : Blk (w14.setCell ⟨S, 4, none⟩ (.int .u64 (yn : Int))) S #[.int .u64 (xi : Int), .int .u64 (xu : Int), .int .u64 (xs : Int), .int .i64 (ye : Int), .int .u64 (yn : Int), .int .u64 0] 58 := hB14.setCell 4 (.int .u64 (yn : Int))
      have hR15 := hR14.keeps hY (fun e => hSp e.symm)
      have hT15 := hT14.keeps hY (fun e => hST e.symm)
      have hrow15 := hrow14.keeps hY (fun j hj e => hSv j hj e)
      have hO15 := hX14.setCell (p := ⟨S, 4, none⟩) (fun h => by have h' : S < w.heap.size := h; omega) (.int .u64 (yn : Int))
      generalize w14.setCell ⟨S, 4, none⟩ (.int .u64 (yn : Int)) = w15 at hB15 hR15 hT15 hrow15 hO15 ⊢
      clear hR14 hT14 hX14 hB14 hrow14 hY c4 f4
      go_wp2_with fail
      refine (rnum_at w15 p q5 hR15).mono ?_
      rintro e w16 ⟨rfl, hR16, hO16⟩
      have byx := Pk.numV_lt hR15.2.1
      generalize Pk.numV q5.s = yx at byx HE ⊢
      generalize Pk.numR q5 = q6 at hR16 HE
      have hB16 := hB15.keeps hO16 hSp
      have hT16 := hT15.keeps hO16 hTp
      have hrow16 := hrow15.keeps hO16 (fun j hj e => hvp j hj e)
      have hX16 := hO15.trans hO16
      have c5 := hB16.cell 5
      have f5 := hB16.free 5
      simp only [List.getElem?_toArray, List.getElem?_cons_succ, List.getElem?_cons_zero] at c5
      clear hR15 hO15 hT15 hB15 hrow15 hO16
      go_upto_region 14 with fail
      have hY := (Only.refl (fun k => k = S) w16).setCell (p := ⟨S, 5, none⟩) (fun _ => rfl) (.int .u64 (yx : Int))
      have hB17 : Blk (w16.setCell ⟨S, 5, none⟩ (.int .u64 (yx : Int))) S #[.int .u64 (xi : Int), .int .u64 (xu : Int), .int .u64 (xs : Int), .int .i64 (ye : Int), .int .u64 (yn : Int), .int .u64 (yx : Int)] 58 := hB16.setCell 5 (.int .u64 (yx : Int))
      have hR17 := hR16.keeps hY (fun e => hSp e.symm)
      have hT17 := hT16.keeps hY (fun e => hST e.symm)
      have hrow17 := hrow16.keeps hY (fun j hj e => hSv j hj e)
      have hO17 := hX16.setCell (p := ⟨S, 5, none⟩) (fun h => by have h' : S < w.heap.size := h; omega) (.int .u64 (yx : Int))
      generalize w16.setCell ⟨S, 5, none⟩ (.int .u64 (yx : Int)) = w17 at hB17 hR17 hT17 hrow17 hO17 ⊢
      clear hR16 hT16 hX16 hB16 hrow16 hY c5 f5
      have c0 := hB17.cell 0
      have c1 := hB17.cell 1
      have c2 := hB17.cell 2
      have c3 := hB17.cell 3
      have c4 := hB17.cell 4
      have c5 := hB17.cell 5
      have t0 := hT17.cell 0
      have t1 := hT17.cell 1
      have t2 := hT17.cell 2
      simp only [List.getElem?_toArray, List.getElem?_cons_succ, List.getElem?_cons_zero] at c0 c1 c2 c3 c4 c5 t0 t1 t2
      have HQ3 : RowKit.Hid (Mc.ldRows now next n [] r3 = if Mc.okSes now next last ⟨xi, xu, xs, ⟨(ye : Int), yn, yx⟩⟩ = true then Mc.ldRows now next k' (l ++ [(⟨xi, xu, xs, ⟨(ye : Int), yn, yx⟩⟩ : Mc.Ses)]) q6 else none) := Lib.hid (by rw [HQ2.out, HE.out])
      clear HQ2 HE
      have HNO : RowKit.Hid (Mc.okSes now next last ⟨xi, xu, xs, ⟨(ye : Int), yn, yx⟩⟩ = false → Mc.rdTab r = none) := Lib.hid (fun ho => by rw [HS.out]; unfold Mc.rdTabE; rw [HQ3.out, ho]; rfl)
      by_cases g1 : xi ≤ last
      · have HN : RowKit.Hid (Mc.rdTab r = none) := Lib.hid (HNO.out (by unfold Mc.okSes; simp; omega))
        have d1 : (xi : Int) ≤ (last : Int) := by omega
        have dn1 : decide (xi ≤ last) = true := by simp; omega
        clear g1 HNO HQ3
        go_wp2_with fail
        go_quiet (fail)
        go_wp2_with fail
        go_ret
        exact ⟨hO17.drewN _, .inl ⟨HN.out, rfl⟩⟩
      have d1 : decide ((xi : Int) ≤ (last : Int)) = false := by simp; omega
      have dn1 : decide (xi ≤ last) = false := by simp; omega
      by_cases g2 : next ≤ xi
      · have HN : RowKit.Hid (Mc.rdTab r = none) := Lib.hid (HNO.out (by unfold Mc.okSes; simp; omega))
        have d2 : (next : Int) ≤ (xi : Int) := by omega
        have dn2 : decide (next ≤ xi) = true := by simp; omega
        clear g1 g2 HNO HQ3
        go_wp2_with fail
        go_quiet (fail)
        go_wp2_with fail
        go_ret
        exact ⟨hO17.drewN _, .inl ⟨HN.out, rfl⟩⟩
      have d2 : decide ((next : Int) ≤ (xi : Int)) = false := by simp; omega
      have dn2 : decide (next ≤ xi) = false := by simp; omega
      by_cases g3 : now < xu
      · have HN : RowKit.Hid (Mc.rdTab r = none) := Lib.hid (HNO.out (by unfold Mc.okSes; simp; omega))
        have d3 : (now : Int) < (xu : Int) := by omega
        have dn3 : decide (now < xu) = true := by simp; omega
        clear g1 g2 g3 HNO HQ3
        go_wp2_with fail
        go_quiet (fail)
        go_wp2_with fail
        go_ret
        exact ⟨hO17.drewN _, .inl ⟨HN.out, rfl⟩⟩
      have d3 : decide ((now : Int) < (xu : Int)) = false := by simp; omega
      have dn3 : decide (now < xu) = false := by simp; omega
      have hwr : IntKind.u64.wrap ((now : Int) - (xu : Int)) = (now : Int) - (xu : Int) := by rw [IntKind.wrap_u64]; omega
      by_cases g4 : 1000 < now - xu
      · have HN : RowKit.Hid (Mc.rdTab r = none) := Lib.hid (HNO.out (by unfold Mc.okSes; simp; omega))
        have d4 : (1000 : Int) < (now : Int) - (xu : Int) := by omega
        clear g1 g2 g3 g4 HNO HQ3
        go_wp2_with fail
        go_quiet (fail)
        go_wp2_with fail
        go_ret
        exact ⟨hO17.drewN _, .inl ⟨HN.out, rfl⟩⟩
      have d4 : decide ((1000 : Int) < (now : Int) - (xu : Int)) = false := by simp; omega
      have HQ4 : RowKit.Hid (Mc.ldRows now next n [] r3 = Mc.ldRows now next k' (l ++ [(⟨xi, xu, xs, ⟨(ye : Int), yn, yx⟩⟩ : Mc.Ses)]) q6) := Lib.hid (by rw [HQ3.out, if_pos (by unfold Mc.okSes; simp; omega)])
      clear g1 g2 g3 g4 HNO HQ3
      have hl2 : (l ++ [(⟨xi, xu, xs, ⟨(ye : Int), yn, yx⟩⟩ : Mc.Ses)]).length = n - k' := by rw [List.length_append, HL.out]; simp; omega
      have HL2 := Lib.hid hl2
      have hl3 : (l ++ [(⟨xi, xu, xs, ⟨(ye : Int), yn, yx⟩⟩ : Mc.Ses)]).length = l.length + 1 := by simp
      have HL3 := Lib.hid hl3
      clear hl2 hl3
      obtain ⟨ao, cap, rfl⟩ := hrow17.shape
      go_wp2_with fail
      go_quiet (fail)
      generalize hz : w17.drewN _ = w19
      have hN : Only NoBlock w17 w19 := by rw [← hz]; exact (Only.refl NoBlock w17).drewN _
      clear hz c0 c1 c2 c3 c4 c5 t0 t1 t2
      have hB19 := hB17.keeps hN (fun h => h)
      have hT19 := hT17.keeps hN (fun h => h)
      have hR19 := hR17.keeps hN (fun h => h)
      have hrow19 := hrow17.keepsN hN
      have hO19 := hO17.trans hN.of_no
      clear hB17 hT17 hR17 hrow17 hO17 hN
      have hsz := hO19.size
      have hTl := hT19.lt
      have c0 := hB19.cell 0
      have c1 := hB19.cell 1
      have c2 := hB19.cell 2
      have c3 := hB19.cell 3
      have c4 := hB19.cell 4
      have c5 := hB19.cell 5
      have t0 := hT19.cell 0
      have t1 := hT19.cell 1
      have t2 := hT19.cell 2
      simp only [List.getElem?_toArray, List.getElem?_cons_succ, List.getElem?_cons_zero] at c0 c1 c2 c3 c4 c5 t0 t1 t2
      go_upto_region 17 with fail
      have u2 := hT19.free 2
      clear d1 d2 d3 d4 dn1 dn2 dn3 hwr
      go_region_law (refine step_append_row1 sesT _ rfl _ _ rfl w.heap.size (.slice ao l.length cap) l ⟨xi, xu, xs, ⟨(ye : Int), yn, yx⟩⟩ w19.heap.size 1 rfl (hrow19.keepsN (((Only.refl NoBlock _).alloc _).drew)) rfl (made_cells_drew sesK w19 _ _ rfl _ _ rfl) (by omega) (by simp; omega) ?_; intro v8 w18 he8 hg8 hv8; have hp8 : Blk w18 T _ _ := (hg8.block _ (by simp; omega) (fun e => hvT T e.symm rfl)).trans (hT19.alloc _); have c8 := hp8.cell 2; have f8 := hp8.free 2; simp only [List.getElem?_toArray, List.getElem?_cons_succ, List.getElem?_cons_zero] at c8; obtain ⟨ao8, cap8, rfl⟩ := he8.shape; rw [HL3.out] at he8 hv8)
      all_goals
        have hT9 : Blk (w18.setCell ⟨T, 2, none⟩ (.slice ao8 (l.length + 1) cap8)) T #[.int .u64 (now : Int), .int .u64 (next : Int), .slice ao8 (l.length + 1) cap8] 112 := hp8.setCell 2 (.slice ao8 (l.length + 1) cap8)
        have hap : ∀ j, (Value.slice ao8 (l.length + 1) cap8).ownBlock = some j → j ≠ T := fun j hj => (he8.ofT hj).ne_blk hp8 (by decide)
        have hY := (Only.refl (fun k => k = T) w18).setCell (p := ⟨T, 2, none⟩) (fun _ => rfl) (.slice ao8 (l.length + 1) cap8)
        have hrow9 := he8.keeps hY hap
        have hO9 : Only (fun k => k = p) w (w18.setCell ⟨T, 2, none⟩ (.slice ao8 (l.length + 1) cap8)) := (((hO19.alloc _).drew).grown hg8 (fun j hj hlt => by have := (World.ownsRow.lt hrow19 j hj).1; omega)).setCell (p := ⟨T, 2, none⟩) (fun h => by have h' : T < w.heap.size := h; omega) _
        have hR9 := (((hR19.keeps (((Only.refl NoBlock w19).alloc _).drew) (fun h => h)).keeps (Only.of_grown hg8) (fun h => hvp p h rfl))).keeps hY (fun e => hTp e.symm)
        generalize w18.setCell ⟨T, 2, none⟩ (.slice ao8 (l.length + 1) cap8) = w9 at hT9 hrow9 hO9 hR9 ⊢
        clear hp8 c8 f8 he8 hg8 hY c0 c1 c2 c3 c4 c5 t0 t1 t2 u2 hB19 hT19 hR19 hrow19 hO19
        go_wp2_with fail
        go_roundw
        case rel => exact ⟨k', _, q6, _, by omega, HL2.out, by rw [lastId_snoc], by go_num, hT9, hrow9, hR9, hO9, HQ4⟩
        case measure => simp [intOf]
    · obtain rfl : k = 0 := by omega
      have HE : RowKit.Hid (Mc.rdTab r = if q.bad = true ∨ next = 0 then none else some (⟨now, next, l⟩, q)) := Lib.hid (by rw [HS.out]; unfold Mc.rdTabE; rw [HQ.out]; rfl)
      clear HQ hk0
      go_wp2_with fail
      refine (rleft_at wr p q hR).mono ?_
      rintro e w2 ⟨rfl, m, rfl⟩
      have hN := (Only.refl NoBlock wr).drewN m
      have hR2 := hR.keeps hN (fun h => h)
      have hrow2 := hrow.keepsN hN
      have hT2 := hT.keeps hN (fun h => h)
      have hO2 := hO.trans hN.of_no
      generalize wr.drewN m = w2 at hR2 hrow2 hT2 hO2 ⊢
      have t1 := hT2.cell 1
      simp only [List.getElem?_toArray, List.getElem?_cons_succ, List.getElem?_cons_zero] at t1
      clear hR hrow hT hO hN
      cases hb : q.bad with
      | true =>
        have HN : RowKit.Hid (Mc.rdTab r = none) := Lib.hid (by rw [HE.out, if_pos (.inl hb)])
        clear HE hb
        go_wp2_with fail
        go_ret
        exact ⟨hO2, .inl ⟨HN.out, rfl⟩⟩
      | false =>
        by_cases g : next = 0
        · have HN : RowKit.Hid (Mc.rdTab r = none) := Lib.hid (by rw [HE.out, if_pos (.inr g)])
          have d : ((next : Int) == 0) = true := by simp; omega
          clear HE hb g
          go_wp2_with fail
          go_ret
          exact ⟨hO2, .inl ⟨HN.out, rfl⟩⟩
        · have HY : RowKit.Hid (Mc.rdTab r = some (⟨now, next, l⟩, q)) := Lib.hid (by rw [HE.out, if_neg (by rintro (h | h); rw [hb] at h; cases h; exact g h)])
          have d : ((next : Int) == 0) = false := by simp; omega
          clear HE hb g
          go_wp2_with fail
          go_ret
          exact ⟨hO2, .inr ⟨⟨now, next, l⟩, q, T, v, HY.out, rfl, ⟨hT2, hrow2.lower (Nat.zero_le _)⟩, hR2, hT0, fun j hj => (World.ownsRow.lt hrow2 j hj).1⟩⟩
end Go.Proofs.Ytogeeeigfhmpmaa

/- saga.Read: a saga from bytes. -/
namespace Go.Proofs.Ytogeeeigfhmpmaa
open Go.RowKit
set_option maxRecDepth 100000

theorem u_saga : ∃ fs, Try.prog.underlying 63 = some (.struct fs) := ⟨_, rfl⟩
theorem size_saga : (Try.prog.info? 63).map (·.size) = some 4 := by kernel_rfl
def sg0 : Value := .agg #[.slice none 0 0, .int .i64 0, .int .i64 0, .int .i64 0]
/-- what Read makes of bytes -/
def SgEnd (p : Nat) (r : Pk.RD) (w : World) (e : Ending) (w' : World) : Prop :=
  Only (fun k => k = p) w w' ∧ ReaderAt w' p (Mc.rdSg r).2 ∧ ((∃ s ao cap, (Mc.rdSg r).1 = some s ∧ e = .returned (.tuple #[sgV s ao cap, .bool true]) ∧ RowIn stpK 38 w' ao s.steps) ∨ ((Mc.rdSg r).1 = none ∧ e = .returned (.tuple #[sg0, .bool false])))
set_option maxHeartbeats 8000000 in
theorem sgread_at (w : World) (p : Nat) (r : Pk.RD) (h : ReaderAt w p r) :
    Calls Try.prog 50 #[.pointer (some ⟨p, 0, none⟩)] w (SgEnd p r w) := by
  have HS := Lib.hid (show Mc.rdSg r = (if ((((Pk.rdSs r).2.up 5).2.up 64).2.up 9).2.bad = false ∧ Mc.sound ⟨(Pk.rdSs r).1, ((Pk.rdSs r).2.up 5).1, (((Pk.rdSs r).2.up 5).2.up 64).1, ((((Pk.rdSs r).2.up 5).2.up 64).2.up 9).1⟩ = true then some ⟨(Pk.rdSs r).1, ((Pk.rdSs r).2.up 5).1, (((Pk.rdSs r).2.up 5).2.up 64).1, ((((Pk.rdSs r).2.up 5).2.up 64).2.up 9).1⟩ else none, ((((Pk.rdSs r).2.up 5).2.up 64).2.up 9).2) from rfl)
  have hsm : Smalls (Pk.rdSs r).1 := rdSs_small r
  obtain ⟨fs, hfs⟩ := u_saga
  have HFS := Lib.hid hfs
  have hp0 := h.1.lt
  clear hfs
  go_enter Try.func50, Try.ntmps50
  go_upto_region 1 with fail
  have hG := Blk.made w #[.slice none 0 0, .int .i64 0, .int .i64 0, .int .i64 0] 63
  have hO : Only (fun k => k = p) w (w.alloc (Obj.cells #[.slice none 0 0, .int .i64 0, .int .i64 0, .int .i64 0] 63)) := (Only.refl _ w).alloc _
  have hR := h.keeps ((Only.refl NoBlock w).alloc (Obj.cells #[.slice none 0 0, .int .i64 0, .int .i64 0, .int .i64 0] 63)) (fun h => h)
  generalize w.alloc (Obj.cells #[.slice none 0 0, .int .i64 0, .int .i64 0, .int .i64 0] 63) = wa at hG hO hR ⊢
  have hG0 : w.heap.size ≤ w.heap.size := Nat.le_refl _
  generalize hGe : w.heap.size = G at hG ⊢
  have hG0 : w.heap.size ≤ G := by omega
  have hGp : G ≠ p := by omega
  clear hGe h
  go_wp2_with fail
  refine (planread_at wa p r hR).mono ?_
  rintro e w1 ⟨ao, cap, rfl, hrow, hR1, hO1⟩
  have hG1 := hG.keeps hO1 hGp
  have hO1' := hO.trans hO1
  generalize (Pk.rdSs r).1 = l at hsm hrow HS ⊢
  generalize (Pk.rdSs r).2 = q1 at hR1 HS
  clear hG hO hR hO1
  go_upto_region 2 with fail
  have hB := Blk.made w1 #[.slice ao l.length cap, .int .i64 0, .int .i64 0, .int .i64 0] 63
  have hA := (Only.refl NoBlock w1).alloc (Obj.cells #[.slice ao l.length cap, .int .i64 0, .int .i64 0, .int .i64 0] 63)
  have hSp : w1.heap.size ≠ p := by have := hR1.1.lt; omega
  have hSG : w1.heap.size ≠ G := by have := hG1.lt; omega
  have hS0 : w.heap.size ≤ w1.heap.size := hO1'.size
  have hR2 := hR1.keeps hA (fun h => h)
  have hG2 := hG1.keeps hA (fun h => h)
  have hr2 := hrow.keepsN hA
  have hO2 := hO1'.trans hA.of_no
  generalize w1.alloc (Obj.cells #[.slice ao l.length cap, .int .i64 0, .int .i64 0, .int .i64 0] 63) = w2 at hB hR2 hG2 hr2 hO2 ⊢
  generalize w1.heap.size = S at hB hSp hSG hS0 ⊢
  clear hR1 hG1 hO1' hA hrow
  go_wp2_with fail
  refine (rup_at w2 p q1 hR2 5 (by omega)).mono ?_
  rintro e w3 ⟨rfl, hR3, hO3⟩
  generalize (q1.up 5).1 = st at HS ⊢
  generalize (q1.up 5).2 = q2 at hR3 HS
  have hB3 := hB.keeps hO3 hSp
  have hG3 := hG2.keeps hO3 hGp
  have hr3 := hr2.keepsT hO3 (fun k hk => by subst hk; exact fun ht => ht.ne_blk hR2.1 (by decide) rfl)
  have hX3 := hO2.trans hO3
  have c1 := hB3.cell 1
  have f1 := hB3.free 1
  simp only [List.getElem?_toArray, List.getElem?_cons_succ, List.getElem?_cons_zero] at c1
  clear hR2 hO2 hG2 hB hr2 hO3
  go_upto_region 3 with fail
  have hY := (Only.refl (fun k => k = S) w3).setCell (p := ⟨S, 1, none⟩) (fun _ => rfl) (.int .i64 (st : Int))
  have hB4 : Blk (w3.setCell ⟨S, 1, none⟩ (.int .i64 (st : Int))) S #[.slice ao l.length cap, .int .i64 (st : Int), .int .i64 0, .int .i64 0] 63 := hB3.setCell 1 (.int .i64 (st : Int))
  have hR4 := hR3.keeps hY (fun e => hSp e.symm)
  have hG4 := hG3.keeps hY (fun e => hSG e.symm)
  have hr4 := hr3.keepsT hY (fun k hk => by subst hk; exact fun ht => ht.ne_blk hB3 (by decide) rfl)
  have hO4 := hX3.setCell (p := ⟨S, 1, none⟩) (fun h => by have h' : S < w.heap.size := h; omega) (.int .i64 (st : Int))
  generalize w3.setCell ⟨S, 1, none⟩ (.int .i64 (st : Int)) = w4 at hB4 hR4 hG4 hr4 hO4 ⊢
  clear hR3 hG3 hX3 hB3 hr3 hY c1 f1
  go_wp2_with fail
  refine (rup_at w4 p q2 hR4 64 (by omega)).mono ?_
  rintro e w5 ⟨rfl, hR5, hO5⟩
  generalize (q2.up 64).1 = cu at HS ⊢
  generalize (q2.up 64).2 = q3 at hR5 HS
  have hB5 := hB4.keeps hO5 hSp
  have hG5 := hG4.keeps hO5 hGp
  have hr5 := hr4.keepsT hO5 (fun k hk => by subst hk; exact fun ht => ht.ne_blk hR4.1 (by decide) rfl)
  have hX5 := hO4.trans hO5
  have c2 := hB5.cell 2
  have f2 := hB5.free 2
  simp only [List.getElem?_toArray, List.getElem?_cons_succ, List.getElem?_cons_zero] at c2
  clear hR4 hO4 hG4 hB4 hr4 hO5
  go_upto_region 4 with fail
  have hY := (Only.refl (fun k => k = S) w5).setCell (p := ⟨S, 2, none⟩) (fun _ => rfl) (.int .i64 (cu : Int))
  have hB6 : Blk (w5.setCell ⟨S, 2, none⟩ (.int .i64 (cu : Int))) S #[.slice ao l.length cap, .int .i64 (st : Int), .int .i64 (cu : Int), .int .i64 0] 63 := hB5.setCell 2 (.int .i64 (cu : Int))
  have hR6 := hR5.keeps hY (fun e => hSp e.symm)
  have hG6 := hG5.keeps hY (fun e => hSG e.symm)
  have hr6 := hr5.keepsT hY (fun k hk => by subst hk; exact fun ht => ht.ne_blk hB5 (by decide) rfl)
  have hO6 := hX5.setCell (p := ⟨S, 2, none⟩) (fun h => by have h' : S < w.heap.size := h; omega) (.int .i64 (cu : Int))
  generalize w5.setCell ⟨S, 2, none⟩ (.int .i64 (cu : Int)) = w6 at hB6 hR6 hG6 hr6 hO6 ⊢
  clear hR5 hG5 hX5 hB5 hr5 hY c2 f2
  go_wp2_with fail
  refine (rup_at w6 p q3 hR6 9 (by omega)).mono ?_
  rintro e w7 ⟨rfl, hR7, hO7⟩
  generalize (q3.up 9).1 = fa at HS ⊢
  generalize (q3.up 9).2 = q4 at hR7 HS
  have hB7 := hB6.keeps hO7 hSp
  have hG7 := hG6.keeps hO7 hGp
  have hr7 := hr6.keepsT hO7 (fun k hk => by subst hk; exact fun ht => ht.ne_blk hR6.1 (by decide) rfl)
  have hX7 := hO6.trans hO7
  have c3 := hB7.cell 3
  have f3 := hB7.free 3
  simp only [List.getElem?_toArray, List.getElem?_cons_succ, List.getElem?_cons_zero] at c3
  clear hR6 hO6 hG6 hB6 hr6 hO7
  go_upto_region 5 with fail
  have hY := (Only.refl (fun k => k = S) w7).setCell (p := ⟨S, 3, none⟩) (fun _ => rfl) (.int .i64 (fa : Int))
  have hB8 : Blk (w7.setCell ⟨S, 3, none⟩ (.int .i64 (fa : Int))) S #[.slice ao l.length cap, .int .i64 (st : Int), .int .i64 (cu : Int), .int .i64 (fa : Int)] 63 := hB7.setCell 3 (.int .i64 (fa : Int))
  have hR8 := hR7.keeps hY (fun e => hSp e.symm)
  have hG8 := hG7.keeps hY (fun e => hSG e.symm)
  have hr8 := hr7.keepsT hY (fun k hk => by subst hk; exact fun ht => ht.ne_blk hB7 (by decide) rfl)
  have hO8 := hX7.setCell (p := ⟨S, 3, none⟩) (fun h => by have h' : S < w.heap.size := h; omega) (.int .i64 (fa : Int))
  generalize w7.setCell ⟨S, 3, none⟩ (.int .i64 (fa : Int)) = w8 at hB8 hR8 hG8 hr8 hO8 ⊢
  clear hR7 hG7 hX7 hB7 hr7 hY c3 f3
  go_wp2_with fail
  refine (rleft_at w8 p q4 hR8).mono ?_
  rintro e wd ⟨rfl, m, rfl⟩
  have hN := (Only.refl NoBlock w8).drewN m
  have hBd := hB8.keeps hN (fun h => h)
  have hGd := hG8.keeps hN (fun h => h)
  have hOd := hO8.trans hN.of_no
  have hRd := hR8.keeps hN (fun h => h)
  have hrd := hr8.keepsN hN
  generalize w8.drewN m = wd at hBd hGd hOd hRd hrd ⊢
  clear hR8 hG8 hO8 hN hB8 hr8
  cases hbad : q4.bad with
  | true =>
    have HR : RowKit.Hid ((Mc.rdSg r).1 = none) := Lib.hid (by rw [HS.out]; simp [hbad])
    clear hbad
    have g0 := hGd.cell 0
    have u0 := hGd.free 0
    have g1 := hGd.cell 1
    have u1 := hGd.free 1
    have g2 := hGd.cell 2
    have u2 := hGd.free 2
    have g3 := hGd.cell 3
    have u3 := hGd.free 3
    simp only [List.getElem?_toArray, List.getElem?_cons_succ, List.getElem?_cons_zero] at g0 g1 g2 g3
    go_wp2_with fail
    have hV := sets_blk hGd [.slice none 0 0, .int .i64 0, .int .i64 0, .int .i64 0] rfl
    have hW := sets_only hOd (fun h => by have h' : G < w.heap.size := h; omega) [.slice none 0 0, .int .i64 0, .int .i64 0, .int .i64 0] 0
    have hW2 := sets_only (S := fun k => k = G) (Only.refl _ wd) (fun _ => rfl) [.slice none 0 0, .int .i64 0, .int .i64 0, .int .i64 0] 0
    simp only [sets] at hV hW hW2
    refine bodyPost_ret (results_cell_tmp (P := Try.prog) rfl _ _ G _ _ _ _ rfl hV HFS.out rfl size_saga) rfl ?_
    exact ⟨hW, by rw [HS.out]; exact hRd.keeps hW2 (fun e => hGp e.symm), .inr ⟨HR.out, rfl⟩⟩
  | false =>
    have HB := Lib.hid hbad
    clear hbad
    have c0 := hBd.cell 0
    have c1 := hBd.cell 1
    have c2 := hBd.cell 2
    have c3 := hBd.cell 3
    simp only [List.getElem?_toArray, List.getElem?_cons_succ, List.getElem?_cons_zero] at c0 c1 c2 c3
    go_wp2_with fail
    refine (sound_at wd ⟨l, (st : Int), (cu : Int), (fa : Int)⟩ ao cap hsm hrd).mono ?_
    rintro e we ⟨rfl, hOm⟩
    have hBe := hBd.keeps hOm (fun h => h)
    have hGe := hGd.keeps hOm (fun h => h)
    have hOe := hOd.trans hOm.of_no
    have hRe := hRd.keeps hOm (fun h => h)
    have hre := hrd.keepsN hOm
    clear hBd hGd hOd hrd hRd hOm c0 c1 c2 c3
    have c0 := hBe.cell 0
    have c1 := hBe.cell 1
    have c2 := hBe.cell 2
    have c3 := hBe.cell 3
    simp only [List.getElem?_toArray, List.getElem?_cons_succ, List.getElem?_cons_zero] at c0 c1 c2 c3
    cases hso : Mc.sound ⟨l, (st : Int), (cu : Int), (fa : Int)⟩ with
    | false =>
      have HR : RowKit.Hid ((Mc.rdSg r).1 = none) := Lib.hid (by rw [HS.out]; simp [hso])
      clear hso
      have g0 := hGe.cell 0
      have u0 := hGe.free 0
      have g1 := hGe.cell 1
      have u1 := hGe.free 1
      have g2 := hGe.cell 2
      have u2 := hGe.free 2
      have g3 := hGe.cell 3
      have u3 := hGe.free 3
      simp only [List.getElem?_toArray, List.getElem?_cons_succ, List.getElem?_cons_zero] at g0 g1 g2 g3
      go_wp2_with fail
      have hV := sets_blk hGe [.slice none 0 0, .int .i64 0, .int .i64 0, .int .i64 0] rfl
      have hW := sets_only hOe (fun h => by have h' : G < w.heap.size := h; omega) [.slice none 0 0, .int .i64 0, .int .i64 0, .int .i64 0] 0
      have hW2 := sets_only (S := fun k => k = G) (Only.refl _ we) (fun _ => rfl) [.slice none 0 0, .int .i64 0, .int .i64 0, .int .i64 0] 0
      simp only [sets] at hV hW hW2
      refine bodyPost_ret (results_cell_tmp (P := Try.prog) rfl _ _ G _ _ _ _ rfl hV HFS.out rfl size_saga) rfl ?_
      exact ⟨hW, by rw [HS.out]; exact hRe.keeps hW2 (fun e => hGp e.symm), .inr ⟨HR.out, rfl⟩⟩
    | true =>
      have HR : RowKit.Hid ((Mc.rdSg r).1 = some ⟨l, (st : Int), (cu : Int), (fa : Int)⟩) := Lib.hid (by rw [HS.out]; simp [hso, HB.out])
      clear hso
      have g0 := hGe.cell 0
      have u0 := hGe.free 0
      have g1 := hGe.cell 1
      have u1 := hGe.free 1
      have g2 := hGe.cell 2
      have u2 := hGe.free 2
      have g3 := hGe.cell 3
      have u3 := hGe.free 3
      simp only [List.getElem?_toArray, List.getElem?_cons_succ, List.getElem?_cons_zero] at g0 g1 g2 g3
      go_wp2_with fail
      have hV := sets_blk hGe [.slice ao l.length cap, .int .i64 (st : Int), .int .i64 (cu : Int), .int .i64 (fa : Int)] rfl
      have hW := sets_only hOe (fun h => by have h' : G < w.heap.size := h; omega) [.slice ao l.length cap, .int .i64 (st : Int), .int .i64 (cu : Int), .int .i64 (fa : Int)] 0
      have hW2 := sets_only (S := fun k => k = G) (Only.refl _ we) (fun _ => rfl) [.slice ao l.length cap, .int .i64 (st : Int), .int .i64 (cu : Int), .int .i64 (fa : Int)] 0
      simp only [sets] at hV hW hW2
      refine bodyPost_ret (results_cell_tmp (P := Try.prog) rfl _ _ G _ _ _ _ rfl hV HFS.out rfl size_saga) rfl ?_
      exact ⟨hW, by rw [HS.out]; exact hRe.keeps hW2 (fun e => hGp e.symm), .inl ⟨⟨l, (st : Int), (cu : Int), (fa : Int)⟩, ao, cap, HR.out, rfl, hre.keepsT hW2 (fun k hk => by subst hk; exact fun ht => ht.ne_blk hGe (by decide) rfl)⟩⟩
end Go.Proofs.Ytogeeeigfhmpmaa

/- The document's sagas and sessions against the program's, in plain data. -/
namespace Go.Proofs.Ytogeeeigfhmpmaa
namespace Mc
open Pk
/-- tontineref14.Sound -/
def rsound (s : Sg) : Bool :=
  okSs s.steps &&
  ((decide (s.state = 1) && within s && decide (s.failed = 0)) || (decide (s.state = 2) && within s && decide (0 ≤ s.failed) && decide (s.failed < budgetAt s)) || (decide (s.state = 3) && decide (s.cursor = s.steps.length) && decide (s.failed = 0)) ||
   (decide (s.state = 4) && decide (s.cursor = 0) && decide (s.failed = 0)) || (decide (s.state = 5) && within s && decide (s.failed = budgetAt s)))
theorem budget_pos (s : Sg) : 0 ≤ budgetAt s := by
  unfold budgetAt
  rw [List.getD_eq_getElem?_getD, List.getElem?_map]
  cases s.steps[s.cursor.toNat]? with
  | none => simp
  | some t => simp
theorem rsound_eq (s : Sg) : rsound s = sound s := by
  unfold rsound sound
  have hb := budget_pos s
  cases okSs s.steps
  · rfl
  · by_cases h0 : 0 ≤ s.failed
    · simp [h0]
    · have h1 : ¬ s.failed = 0 := by omega
      have h2 : ¬ s.failed = budgetAt s := by omega
      simp [h0, h1, h2]
theorem sound_state {s : Sg} (h : sound s = true) : 1 ≤ s.state ∧ s.state ≤ 5 ∧ (s.state = 1 → s.failed = 0) := by
  unfold sound at h
  simp only [Bool.and_eq_true, Bool.or_eq_true, decide_eq_true_eq] at h
  obtain ⟨_, h⟩ := h
  rcases h with (((h | h) | h) | h) | h
  · exact ⟨by omega, by omega, fun _ => h.2⟩
  · have := h.1.1; exact ⟨by omega, by omega, fun e => by omega⟩
  · have := h.1.1; exact ⟨by omega, by omega, fun e => by omega⟩
  · have := h.1.1; exact ⟨by omega, by omega, fun e => by omega⟩
  · have := h.1.1; exact ⟨by omega, by omega, fun e => by omega⟩
/-- tontineref14.Outcome -/
def routcome (s : Sg) (step : Int) (taken : Bool) (try_ : Int) (ok : Bool) : Sg × Bool :=
  if rsound s = false ∨ 2 < s.state ∨ step ≠ s.cursor ∨ taken ≠ decide (s.state = 2) ∨ (ok = false ∧ try_ ≠ s.failed) then (s, false)
  else if ok = true ∧ taken = false then (if step + 1 = s.steps.length then (⟨s.steps, 3, step + 1, 0⟩, true) else (⟨s.steps, 1, step + 1, 0⟩, true))
  else if ok = true ∨ taken = false then (backTo s (step - 1), true)
  else (⟨s.steps, if s.failed + 1 = budgetAt s then 5 else 2, step, s.failed + 1⟩, true)
theorem routcome_eq (s : Sg) (step : Int) (taken : Bool) (try_ : Int) (ok : Bool) : routcome s step taken try_ ok = outcome s step taken try_ ok := by
  unfold routcome outcome
  rw [rsound_eq]
  by_cases hs : sound s = true
  · obtain ⟨h1, h5, hf⟩ := sound_state hs
    by_cases h2 : s.state ≤ 2
    · by_cases hc : s.cursor = step
      · subst hc
        by_cases ht : taken = decide (s.state = 2)
        · by_cases ho : ok = true ∨ try_ = s.failed
          · rw [if_neg (by
              rintro (h | h | h | h | h)
              · rw [hs] at h; cases h
              · omega
              · exact h rfl
              · exact h ht
              · rcases ho with ho | ho
                · rw [ho] at h; cases h.1
                · exact h.2 ho)]
            have hc2 : sound s = true ∧ s.state ≤ 2 ∧ s.cursor = s.cursor ∧ taken = decide (s.state = 2) ∧ (ok = true ∨ try_ = s.failed) := ⟨hs, h2, rfl, ht, ho⟩
            rw [if_pos hc2]
            clear hc2
            cases ok <;> cases taken
            · simp
            · have e2 : s.state = 2 := by simpa using ht.symm
              simp [e2]
            · have e1 : s.state = 1 := by have : ¬ s.state = 2 := by simpa using ht.symm
                                          omega
              have hf1 := hf e1
              simp only [and_self, if_true]
              split <;> simp [hf1, e1]
            · simp
          · rw [if_pos (by
              right; right; right; right
              refine ⟨by cases ok; rfl; exact absurd (.inl rfl) ho, fun e => ho (.inr e)⟩), if_neg (fun h => ho h.2.2.2.2)]
        · rw [if_pos (.inr (.inr (.inr (.inl ht)))), if_neg (fun h => ht h.2.2.2.1)]
      · rw [if_pos (.inr (.inr (.inl (fun e => hc e.symm)))), if_neg (fun h => hc h.2.2.1)]
    · rw [if_pos (.inr (.inl (by omega))), if_neg (fun h => h2 h.2.1)]
  · rw [if_pos (.inl (by simpa using hs)), if_neg (fun h => hs h.1)]
/-- the document's Clock keeps a session just if the program's does -/
theorem keep_eq {used now : Nat} (h1 : used < now) (h2 : now < 18446744073709551616) : (decide (now ≤ (used + 1000) % 18446744073709551616) || decide ((used + 1000) % 18446744073709551616 < 1000)) = decide (now - used ≤ 1000) := by
  rw [Bool.eq_iff_iff]
  simp only [Bool.or_eq_true, decide_eq_true_eq]
  omega
end Mc
end Go.Proofs.Ytogeeeigfhmpmaa

/- The document's machine (two rows: numbers and sagas) against the program's, in plain data (layer 17). -/
namespace Go.Proofs.Ytogeeeigfhmpmaa
namespace Mc
open Pk
/-- the document's machine -/
structure RMach where
  tab : Tab
  ids : List Nat
  ss : List Sg
def RMach.new : RMach := ⟨Tab.new, [], []⟩
def Mach.toR (m : Mach) : RMach := ⟨m.tab, m.ids, m.ids.map (fun i => (m.sagas i).getD Sg.zero)⟩
def rfind (l : List Nat) (id : Nat) : Option Nat := l.findIdx? (fun x => decide (x = id))
def placeOf (l : List Nat) (id : Nat) : Nat := (l.takeWhile (fun i => decide (i < id))).length
def RMach.put (m : RMach) (id : Nat) (s : Sg) : RMach := ⟨m.tab, m.ids.take (placeOf m.ids id) ++ id :: m.ids.drop (placeOf m.ids id), m.ss.take (placeOf m.ids id) ++ s :: m.ss.drop (placeOf m.ids id)⟩
def RMach.setS (m : RMach) (i : Nat) (s : Sg) : RMach := ⟨m.tab, m.ids, m.ss.set i s⟩
def RMach.sagaAt (m : RMach) (i : Nat) : Sg := m.ss.getD i Sg.zero
/-- the reply to a session's command, and the machine behind it -/
def RMach.do_ (m : RMach) (c : Cmd) : RMach × Rep :=
  match rfind m.ids c.saga with
  | some i =>
    if c.kind = 2 then (m, ⟨42, 0, 0⟩)
    else if c.kind = 3 then (m.setS i (abort (m.sagaAt i)).1, told (abort (m.sagaAt i)).1)
    else (m, told (m.sagaAt i))
  | none =>
    if c.kind = 2 then (if 16 ≤ m.ids.length then (m, ⟨11, 0, 0⟩) else (m.put c.saga (fresh c.steps), told (fresh c.steps)))
    else (m, ⟨43, 0, 0⟩)
def RMach.outcome (m : RMach) (c : Cmd) : RMach × Rep :=
  match rfind m.ids c.saga with
  | none => (m, ⟨43, 0, 0⟩)
  | some i => let x := Mc.outcome (m.sagaAt i) c.step c.back c.try_ c.ok; if x.2 = true then (m.setS i x.1, told x.1) else (m, ⟨41, 0, 0⟩)
def RMach.tabbed (m : RMach) (t : Tab) : RMach := ⟨t, m.ids, m.ss⟩
def RMach.apply (m : RMach) (s : List Int) : RMach × Rep :=
  match dec s with
  | none => (m, ⟨2, 0, 0⟩)
  | some c =>
    let m1 := m.tabbed (m.tab.clock c.now)
    if c.kind = 1 then (let x := m1.tab.register; (m1.tabbed x.1, ⟨x.2.2, x.2.1, 0⟩))
    else if c.kind = 4 then m1.outcome c
    else
      let x := m1.tab.start c.session c.seq
      let m2 := m1.tabbed x.1
      if x.2.2 = false then (m2, x.2.1)
      else let y := m2.do_ c; (y.1.tabbed (y.1.tab.end_ c.session c.seq y.2), y.2)

theorem rfind_none {l : List Nat} {id : Nat} (h : id ∉ l) : rfind l id = none := by
  unfold rfind
  rw [List.findIdx?_eq_none_iff]
  intro x hx
  have : x ≠ id := fun e => h (e ▸ hx)
  simpa using this
theorem rfind_some {l : List Nat} {id i : Nat} (h : rfind l id = some i) : ∃ hi : i < l.length, l[i] = id := by
  unfold rfind at h
  obtain ⟨hi, h1, _⟩ := List.findIdx?_eq_some_iff_getElem.1 h
  exact ⟨hi, by simpa using h1⟩
theorem rfind_mem {l : List Nat} {id : Nat} (h : id ∈ l) : ∃ i, rfind l id = some i := by
  cases hx : rfind l id with
  | some i => exact ⟨i, rfl⟩
  | none =>
    unfold rfind at hx
    rw [List.findIdx?_eq_none_iff] at hx
    have := hx id h
    simp at this
theorem sagaAt_toR {m : Mach} {i : Nat} (hi : i < m.ids.length) : m.toR.sagaAt i = (m.sagas m.ids[i]).getD Sg.zero := by
  unfold RMach.sagaAt Mach.toR
  rw [List.getD_eq_getElem?_getD, List.getElem?_map, List.getElem?_eq_getElem hi]
  rfl
theorem map_put_other {f : Sgs} {id : Nat} {s : Sg} : ∀ (l : List Nat), id ∉ l → l.map (fun i => (put f id s i).getD Sg.zero) = l.map (fun i => (f i).getD Sg.zero) := by
  intro l h
  refine List.map_congr_left (fun x hx => ?_)
  have : x ≠ id := fun e => h (e ▸ hx)
  unfold put
  rw [if_neg this]
theorem take_placeOf (l : List Nat) (id : Nat) : l.take (placeOf l id) = l.takeWhile (fun i => decide (i < id)) := by
  unfold placeOf
  conv => lhs; rhs; rw [← List.takeWhile_append_dropWhile (p := fun i => decide (i < id)) (l := l)]
  rw [List.take_left]
theorem drop_placeOf (l : List Nat) (id : Nat) : l.drop (placeOf l id) = l.dropWhile (fun i => decide (i < id)) := by
  unfold placeOf
  conv => lhs; rhs; rw [← List.takeWhile_append_dropWhile (p := fun i => decide (i < id)) (l := l)]
  rw [List.drop_left]
theorem toR_put {m : Mach} (id : Nat) (hn : id ∉ m.ids) (s : Sg) : (⟨m.tab, insert m.ids id, put m.sagas id s⟩ : Mach).toR = m.toR.put id s := by
  unfold Mach.toR RMach.put insert
  simp only
  rw [← take_placeOf, ← drop_placeOf, List.map_append, List.map_cons, ← List.map_take, ← List.map_drop]
  rw [map_put_other _ (fun h => hn (List.mem_of_mem_take h)), map_put_other _ (fun h => hn (List.mem_of_mem_drop h))]
  congr 2
  unfold put
  simp
theorem toR_set {m : Mach} (h : m.ids.Pairwise (· < ·)) {i : Nat} (hi : i < m.ids.length) (s : Sg) : (⟨m.tab, m.ids, put m.sagas m.ids[i] s⟩ : Mach).toR = m.toR.setS i s := by
  unfold Mach.toR RMach.setS
  simp only
  congr 1
  refine List.ext_getElem (by simp) (fun j h1 h2 => ?_)
  rw [List.getElem_map, List.getElem_set]
  have hj : j < m.ids.length := by simpa using h1
  by_cases e : i = j
  · subst e
    rw [if_pos rfl]
    unfold put
    rw [if_pos rfl]
    rfl
  · rw [if_neg e, List.getElem_map]
    have : m.ids[j] ≠ m.ids[i] := by
      rcases Nat.lt_or_gt_of_ne e with hlt | hgt
      · have := List.pairwise_iff_getElem.1 h i j hi hj hlt; omega
      · have := List.pairwise_iff_getElem.1 h j i hj hi hgt; omega
    unfold put
    rw [if_neg this]
theorem toR_do {m : Mach} (h : m.Ok) (c : Cmd) : m.toR.do_ c = ((m.do_ c).1.toR, (m.do_ c).2) := by
  unfold RMach.do_ Mach.do_
  have hT : m.toR.ids = m.ids := rfl
  rw [hT]
  cases hx : m.sagas c.saga with
  | none =>
    have hn : c.saga ∉ m.ids := fun hc => by have := (h.has _).2 hc; rw [hx] at this; cases this
    rw [rfind_none hn]
    simp only
    by_cases h2 : c.kind = 2
    · rw [if_pos h2, if_pos h2]
      by_cases hl : 16 ≤ m.ids.length
      · rw [if_pos hl, if_pos hl]
      · rw [if_neg hl, if_neg hl, toR_put _ hn]
    · rw [if_neg h2, if_neg h2]
      by_cases h3 : c.kind = 3
      · rw [if_pos h3]
      · rw [if_neg h3]
  | some s =>
    have hm : c.saga ∈ m.ids := (h.has _).1 (by rw [hx]; rfl)
    obtain ⟨i, hi⟩ := rfind_mem hm
    obtain ⟨hil, hie⟩ := rfind_some hi
    have hs : m.toR.sagaAt i = s := by rw [sagaAt_toR hil, hie, hx]; rfl
    rw [hi]
    simp only [hs]
    by_cases h2 : c.kind = 2
    · rw [if_pos h2, if_pos h2]
    · rw [if_neg h2, if_neg h2]
      by_cases h3 : c.kind = 3
      · rw [if_pos h3, if_pos h3, ← hie, toR_set h.asc hil]
      · rw [if_neg h3, if_neg h3]
theorem toR_outcome {m : Mach} (h : m.Ok) (c : Cmd) : m.toR.outcome c = ((m.outcome c).1.toR, (m.outcome c).2) := by
  unfold RMach.outcome Mach.outcome
  have hT : m.toR.ids = m.ids := rfl
  rw [hT]
  cases hx : m.sagas c.saga with
  | none =>
    have hn : c.saga ∉ m.ids := fun hc => by have := (h.has _).2 hc; rw [hx] at this; cases this
    rw [rfind_none hn]
  | some s =>
    have hm : c.saga ∈ m.ids := (h.has _).1 (by rw [hx]; rfl)
    obtain ⟨i, hi⟩ := rfind_mem hm
    obtain ⟨hil, hie⟩ := rfind_some hi
    have hs : m.toR.sagaAt i = s := by rw [sagaAt_toR hil, hie, hx]; rfl
    rw [hi]
    simp only [hs]
    split
    · rw [← hie, toR_set h.asc hil]
    · rfl
theorem toR_tabbed (m : Mach) (t : Tab) : m.toR.tabbed t = (⟨t, m.ids, m.sagas⟩ : Mach).toR := rfl
theorem toR_tab (m : Mach) : m.toR.tab = m.tab := rfl
theorem toR_apply {m : Mach} (h : m.Ok) {s : List Int} (hb : Byt s) : m.toR.apply s = ((m.apply s).1.toR, (m.apply s).2) := by
  unfold RMach.apply Mach.apply
  have hT : m.toR.tab = m.tab := rfl
  rw [hT]
  cases hd : dec s with
  | none => rfl
  | some c =>
    have hw := dec_wf hb hd
    have hm := (dec_canon hb hd).2
    have h1 := h.tabbed (h.tab.clock hw.now)
    simp only
    split
    · rfl
    · split
      · exact toR_outcome h1 c
      · have h2 := (h.tab.clock hw.now).start c.session c.seq
        have h3 := h1.tabbed h2.1
        have hd := toR_do h3 c
        simp only [toR_tabbed, toR_tab] at hd ⊢
        by_cases hf : ((m.tab.clock c.now).start c.session c.seq).2.2 = false
        · simp only [if_pos hf]
          exact if_pos hf
        · simp only [if_neg hf, hd, toR_tab, toR_tabbed]
theorem toR_new : Mach.new.toR = RMach.new := rfl
/-! what the document reads -/
def rldRows (now next : Nat) : Nat → List Ses → Bool → RD → List Ses × Bool × RD
  | 0, l, ok, r => (l, ok, r)
  | n + 1, l, ok, r => rldRows now next n (l ++ [(rdSes r).1]) (ok && okSes now next (lastId l) (rdSes r).1) (rdSes r).2
theorem rldRows_false (now next : Nat) : ∀ n l r, (rldRows now next n l false r).2.1 = false
  | 0, _, _ => rfl
  | n + 1, l, r => by unfold rldRows; rw [Bool.false_and]; exact rldRows_false now next n _ _
theorem rldRows_eq (now next : Nat) : ∀ n l r, match ldRows now next n l r with
    | none => (rldRows now next n l true r).2.1 = false
    | some (l', r') => rldRows now next n l true r = (l', true, r')
  | 0, _, _ => rfl
  | n + 1, l, r => by
    unfold ldRows rldRows
    rw [Bool.true_and]
    by_cases hx : okSes now next (lastId l) (rdSes r).1 = true
    · rw [if_pos hx, hx]
      exact rldRows_eq now next n _ _
    · rw [if_neg hx]
      have : okSes now next (lastId l) (rdSes r).1 = false := by simpa using hx
      rw [this]
      exact rldRows_false now next n _ _
def rrdTab (r : RD) : Option (Tab × RD) :=
  let a := r.num
  let b := a.2.num
  let n := b.2.up 16
  let x := rldRows a.1 b.1 n.1 [] true n.2
  if x.2.2.bad = true ∨ x.2.1 = false ∨ b.1 = 0 then none else some (⟨a.1, b.1, x.1⟩, x.2.2)
theorem rrdTab_eq (r : RD) : rrdTab r = rdTab r := by
  unfold rrdTab rdTab
  simp only
  have h := rldRows_eq r.num.1 r.num.2.num.1 (r.num.2.num.2.up 16).1 [] (r.num.2.num.2.up 16).2
  cases hx : ldRows r.num.1 r.num.2.num.1 (r.num.2.num.2.up 16).1 [] (r.num.2.num.2.up 16).2 with
  | none =>
    rw [hx] at h
    simp only at h
    rw [if_pos (.inr (.inl h))]
  | some y =>
    rw [hx] at h
    simp only at h
    rw [h]
    simp
def rldSgs : Nat → List Nat → List Sg → RD → Option (List Nat × List Sg × RD)
  | 0, l, f, r => some (l, f, r)
  | n + 1, l, f, r => match (rdSg r.num.2).1 with
    | none => none
    | some x => if l ≠ [] ∧ r.num.1 ≤ lastN l then none else rldSgs n (l ++ [r.num.1]) (f ++ [x]) (rdSg r.num.2).2
def rldMach (r : RD) : Option RMach :=
  match rrdTab r with
  | none => none
  | some (t, r1) => match rldSgs (r1.up 16).1 [] [] (r1.up 16).2 with
    | none => none
    | some (ids, f, r2) => if r2.done = true then some ⟨t, ids, f⟩ else none
def rload (s : List Int) : Option RMach := if s = [] then some RMach.new else rldMach ⟨s, false⟩
theorem getLast_lt {l : List Nat} (h : l.Pairwise (· < ·)) {x : Nat} (hx : ¬ (l ≠ [] ∧ x ≤ lastN l)) : (l ++ [x]).Pairwise (· < ·) ∧ x ∉ l := by
  have hlt : ∀ y ∈ l, y < x := by
    intro y hy
    have hne : l ≠ [] := fun e => by rw [e] at hy; cases hy
    have h1 : lastN l < x := Nat.lt_of_not_le (fun hle => hx ⟨hne, hle⟩)
    unfold lastN at h1
    rw [List.getLast?_eq_some_getLast hne, Option.getD_some] at h1
    rcases Nat.lt_or_ge y x with h2 | h2
    · exact h2
    · exfalso
      obtain ⟨i, hi, rfl⟩ := List.mem_iff_getElem.1 hy
      rw [List.getLast_eq_getElem] at h1
      have hp := List.pairwise_iff_getElem.1 h
      by_cases e : i = l.length - 1
      · subst e; omega
      · have := hp i (l.length - 1) hi (by omega) (by omega); omega
  refine ⟨List.pairwise_append.2 ⟨h, List.pairwise_singleton _ _, fun y hy z hz => ?_⟩, fun hm => ?_⟩
  · simp at hz; subst hz; exact hlt y hy
  · exact Nat.lt_irrefl _ (hlt x hm)
theorem rldSgs_eq : ∀ (n : Nat) (l : List Nat) (f : Sgs) (r : RD) (_ : l.Pairwise (· < ·)),
    rldSgs n l (l.map (fun i => (f i).getD Sg.zero)) r = (ldSgs n l f r).map (fun x => (x.1, x.1.map (fun i => (x.2.1 i).getD Sg.zero), x.2.2))
  | 0, _, _, _, _ => rfl
  | n + 1, l, f, r, hp => by
    unfold rldSgs ldSgs
    cases hx : (rdSg r.num.2).1 with
    | none => rfl
    | some x =>
      simp only
      by_cases hc : l ≠ [] ∧ r.num.1 ≤ lastN l
      · rw [if_pos hc, if_pos hc]; rfl
      · rw [if_neg hc, if_neg hc]
        obtain ⟨h1, h2⟩ := getLast_lt hp hc
        rw [← rldSgs_eq n (l ++ [r.num.1]) (put f r.num.1 x) _ h1]
        congr 1
        rw [List.map_append, map_put_other l h2]
        simp [put]
theorem rload_eq (s : List Int) : rload s = (load s).map Mach.toR := by
  unfold rload load
  split
  · rfl
  · unfold rldMach ldMach
    rw [rrdTab_eq]
    cases rdTab ⟨s, false⟩ with
    | none => rfl
    | some x =>
      obtain ⟨t, r1⟩ := x
      simp only
      have := rldSgs_eq (r1.up 16).1 [] (fun _ => none) (r1.up 16).2 List.Pairwise.nil
      rw [List.map_nil] at this
      rw [this]
      cases ldSgs (r1.up 16).1 [] (fun _ => none) (r1.up 16).2 with
      | none => rfl
      | some y =>
        obtain ⟨ids, f, r2⟩ := y
        simp only [Option.map_some]
        split
        · rfl
        · rfl
/-! what is loaded is a machine -/
theorem rdSes_ok {r : RD} (hb : Byt r.s) (h : 0 < (rdSes r).1.id) : (rdSes r).1.Ok ∧ Byt (rdSes r).2.s := by
  have b1 := num_byt hb
  have b2 := num_byt b1
  have b3 := num_byt b2
  have b4 := up_byt (m := 52) b3
  have b5 := num_byt b4
  have b6 := num_byt b5
  refine ⟨⟨h, numV_lt b2, ?_⟩, b6⟩
  have hu := up_fst (r := ((r.num.2).num.2).num.2) (m := 52)
  exact ⟨by show (0 : Int) ≤ ((((r.num.2).num.2).num.2).up 52).1; omega, by show ((((((r.num.2).num.2).num.2).up 52).1 : Nat) : Int) ≤ 52; omega, numV_lt b4, numV_lt b5⟩
theorem ldRows_ok {now next : Nat} : ∀ (n : Nat) (l : List Ses) (r : RD) (_ : Byt r.s) (_ : l.Pairwise (fun x y => x.id < y.id)) (_ : ∀ x ∈ l, x.Ok ∧ x.id < next ∧ x.used ≤ now ∧ now - x.used ≤ 1000) {l' : List Ses} {r' : RD} (_ : ldRows now next n l r = some (l', r')),
    Byt r'.s ∧ l'.Pairwise (fun x y => x.id < y.id) ∧ (∀ x ∈ l', x.Ok ∧ x.id < next ∧ x.used ≤ now ∧ now - x.used ≤ 1000) ∧ l'.length = l.length + n
  | 0, l, _, hb, hp, h, l', r', e => by
    unfold ldRows at e
    cases e
    exact ⟨hb, hp, h, rfl⟩
  | n + 1, l, r, hb, hp, h, l', r', e => by
    unfold ldRows at e
    split at e
    · rename_i hc
      unfold okSes at hc
      simp only [Bool.and_eq_true, decide_eq_true_eq] at hc
      obtain ⟨⟨⟨h1, h2⟩, h3⟩, h4⟩ := hc
      obtain ⟨k1, k2⟩ := rdSes_ok hb (Nat.lt_of_le_of_lt (Nat.zero_le _) h1)
      have hlast : ∀ y ∈ l, y.id < (rdSes r).1.id := by
        intro y hy
        have hne : l ≠ [] := fun e => by rw [e] at hy; cases hy
        have hle : y.id ≤ lastId l := by
          unfold lastId
          rw [List.getLast?_eq_some_getLast hne]
          simp only [Option.map_some, Option.getD_some]
          obtain ⟨i, hi, rfl⟩ := List.mem_iff_getElem.1 hy
          rw [List.getLast_eq_getElem]
          by_cases e : i = l.length - 1
          · subst e; exact Nat.le_refl _
          · have := List.pairwise_iff_getElem.1 hp i (l.length - 1) hi (by omega) (by omega); omega
        omega
      have := ldRows_ok n (l ++ [(rdSes r).1]) (rdSes r).2 k2 (List.pairwise_append.2 ⟨hp, List.pairwise_singleton _ _, fun y hy z hz => by simp at hz; subst hz; exact hlast y hy⟩) (fun x hx => by
        rcases List.mem_append.1 hx with hx | hx
        · exact h x hx
        · simp at hx; subst hx; exact ⟨k1, h2, h3, h4⟩) e
      refine ⟨this.1, this.2.1, this.2.2.1, ?_⟩
      have hl := this.2.2.2
      simp at hl
      omega
    · cases e
theorem rdTab_ok {r : RD} (hb : Byt r.s) {t : Tab} {r' : RD} (h : rdTab r = some (t, r')) : t.Ok ∧ Byt r'.s := by
  unfold rdTab at h
  simp only at h
  have b1 := num_byt hb
  have b2 := num_byt b1
  have b3 := up_byt (m := 16) b2
  cases hx : ldRows r.num.1 r.num.2.num.1 (r.num.2.num.2.up 16).1 [] (r.num.2.num.2.up 16).2 with
  | none => rw [hx] at h; cases h
  | some y =>
    obtain ⟨l, r1⟩ := y
    rw [hx] at h
    simp only at h
    split at h
    · cases h
    · rename_i hc
      cases h
      obtain ⟨k1, k2, k3, k4⟩ := ldRows_ok _ _ _ b3 List.Pairwise.nil (by simp) hx
      have h16 := up_fst (r := r.num.2.num.2) (m := 16)
      refine ⟨⟨numV_lt hb, numV_lt b1, ?_, ?_, k2, fun x hx => (k3 x hx).1, fun x hx => (k3 x hx).2.1, fun x hx => (k3 x hx).2.2.1, fun x hx => (k3 x hx).2.2.2⟩, k1⟩
      · show 0 < r.num.2.num.1
        have : ¬ r.num.2.num.1 = 0 := fun e => hc (.inr e)
        omega
      · simp at k4; show l.length ≤ 16; omega
theorem rdSn_byt : ∀ (n : Nat) (r : RD), Byt r.s → Byt (rdSn n r).2.s
  | 0, _, h => h
  | n + 1, _, h => rdSn_byt n _ (up_byt (text_byt (up_byt h)))
theorem rdSg_byt {r : RD} (hb : Byt r.s) : Byt (rdSg r).2.s := up_byt (up_byt (up_byt (rdSn_byt _ _ (up_byt hb))))
theorem rdSg_sound {r : RD} {x : Sg} (h : (rdSg r).1 = some x) : sound x = true := by
  unfold rdSg at h
  simp only at h
  split at h
  · rename_i hc; cases h; exact hc.2
  · cases h
theorem ldSgs_ok : ∀ (n : Nat) (l : List Nat) (f : Sgs) (r : RD) (_ : Byt r.s) (_ : l.Pairwise (· < ·)) (_ : ∀ i ∈ l, i < 18446744073709551616) (_ : ∀ i, (f i).isSome = true ↔ i ∈ l) (_ : ∀ i s, f i = some s → sound s = true) {l' : List Nat} {f' : Sgs} {r' : RD} (_ : ldSgs n l f r = some (l', f', r')),
    l'.Pairwise (· < ·) ∧ (∀ i ∈ l', i < 18446744073709551616) ∧ (∀ i, (f' i).isSome = true ↔ i ∈ l') ∧ (∀ i s, f' i = some s → sound s = true) ∧ l'.length = l.length + n
  | 0, l, f, _, hb, h1, h2, h3, h4, l', f', r', e => by
    unfold ldSgs at e
    cases e
    exact ⟨h1, h2, h3, h4, rfl⟩
  | n + 1, l, f, r, hb, h1, h2, h3, h4, l', f', r', e => by
    unfold ldSgs at e
    cases hx : (rdSg r.num.2).1 with
    | none => rw [hx] at e; cases e
    | some x =>
      rw [hx] at e
      simp only at e
      split at e
      · cases e
      · rename_i hc
        obtain ⟨k1, k2⟩ := getLast_lt h1 hc
        have := ldSgs_ok n (l ++ [r.num.1]) (put f r.num.1 x) _ (rdSg_byt (num_byt hb)) k1 (fun i hi => by
          rcases List.mem_append.1 hi with hi | hi
          · exact h2 i hi
          · simp at hi; subst hi; exact numV_lt hb) (fun i => by
          show (if i = r.num.1 then some x else f i).isSome = true ↔ _
          by_cases e : i = r.num.1
          · simp [e]
          · rw [if_neg e, h3 i, List.mem_append]; simp [e]) (fun i s hs => by
          have hs' : (if i = r.num.1 then some x else f i) = some s := hs
          by_cases e : i = r.num.1
          · rw [if_pos e] at hs'; cases hs'; exact rdSg_sound hx
          · rw [if_neg e] at hs'; exact h4 i s hs') e
        refine ⟨this.1, this.2.1, this.2.2.1, this.2.2.2.1, ?_⟩
        have hl := this.2.2.2.2
        simp at hl
        omega
theorem load_ok {s : List Int} (hb : Byt s) {m : Mach} (h : load s = some m) : m.Ok := by
  unfold load at h
  split at h
  · cases h; exact Mach.new_ok
  · unfold ldMach at h
    cases hx : rdTab ⟨s, false⟩ with
    | none => rw [hx] at h; cases h
    | some y =>
      obtain ⟨t, r1⟩ := y
      obtain ⟨ht, hb1⟩ := rdTab_ok (r := ⟨s, false⟩) hb hx
      rw [hx] at h
      simp only at h
      cases hy : ldSgs (r1.up 16).1 [] (fun _ => none) (r1.up 16).2 with
      | none => rw [hy] at h; cases h
      | some z =>
        obtain ⟨ids, f, r2⟩ := z
        rw [hy] at h
        simp only at h
        split at h
        · cases h
          obtain ⟨k1, k2, k3, k4, k5⟩ := ldSgs_ok _ _ _ _ (up_byt hb1) List.Pairwise.nil (by simp) (fun i => by simp) (fun i s e => by cases e) hy
          have h16 := up_fst (r := r1) (m := 16)
          exact ⟨ht, by simp at k5; show ids.length ≤ 16; omega, k1, k2, k3, k4⟩
        · cases h
end Mc
end Go.Proofs.Ytogeeeigfhmpmaa

/- machine.Load: a machine from bytes. -/
namespace Go.Proofs.Ytogeeeigfhmpmaa
open Go.RowKit
set_option maxRecDepth 100000

theorem lastN_snoc (l : List Nat) (x : Nat) : Mc.lastN (l ++ [x]) = x := by unfold Mc.lastN; simp
/-- what Load makes of bytes -/
def LoadEnd (s : ByteArray) (w : World) (e : Ending) (w' : World) : Prop :=
  Only NoBlock w w' ∧ ((Mc.load (nums s) = none ∧ e = .returned (.tuple #[.pointer none, .int .i64 2])) ∨
    ∃ m p tb mb v, Mc.load (nums s) = some m ∧ e = .returned (.tuple #[.pointer (some ⟨p, 0, none⟩), .int .i64 0]) ∧ MachAt w' p tb mb v m ∧ w.heap.size ≤ p ∧ w.heap.size ≤ tb ∧ w.heap.size ≤ mb ∧ ∀ k, v.ownBlock = some k → w.heap.size ≤ k)
theorem nums_nil {s : ByteArray} (h : nums s = []) : s = ⟨#[]⟩ := by
  have hl : s.size = 0 := by rw [← nums_length, h]; rfl
  obtain ⟨⟨l⟩⟩ := s
  cases l with
  | nil => rfl
  | cons a t => cases hl
set_option maxHeartbeats 4000000 in
theorem mload_at (w : World) (s : ByteArray) (hs : s.size ≤ 140737488351232) :
    Calls Try.prog 17 #[.string s] w (LoadEnd s w) := by
  by_cases he : s = ⟨#[]⟩
  · subst he
    go_enter Try.func17, Try.ntmps17
    go_wp2_with fail
    refine (mnew_at w).mono ?_
    rintro e w1 ⟨p, tb, mb, rfl, hM, hO, h1, h2, h3, h4⟩
    go_wp2_with fail
    go_ret2
    exact ⟨hO, .inr ⟨Mc.Mach.new, p, tb, mb, _, rfl, rfl, hM, h1, h2, h3, fun k hk => by cases hk⟩⟩
  have hne : nums s ≠ [] := fun h => he (nums_nil h)
  have HD : RowKit.Hid (Mc.load (nums s) = Mc.ldMach ⟨nums s, false⟩) := Lib.hid (by unfold Mc.load; rw [if_neg hne])
  have hq : (s.toList == []) = false := by
    have : s.toList ≠ (⟨#[]⟩ : ByteArray).toList := Pk.ba_list he
    simpa using this
  clear hne
  go_enter Try.func17, Try.ntmps17
  go_wp2_with fail
  refine (rfrom_at w s hs).mono ?_
  rintro e w1 ⟨rfl, hR1, hO1⟩
  generalize hP : w.heap.size = P at hR1 ⊢
  have hPl := hR1.1.lt
  have hP0 : w.heap.size ≤ P := by omega
  clear hP hq he
  go_wp2_with fail
  refine (mnew_at w1).mono ?_
  rintro e w2 ⟨p, tb, mb, rfl, hM2, hO2, h1, h2, h3, h4⟩
  have hpP : p ≠ P := by omega
  have hp0 : w.heap.size ≤ p := by omega
  have hmb0 : w.heap.size ≤ mb := by omega
  have hmP : mb ≠ P := by omega
  have hpm : p ≠ mb := hM2.pmb
  have hR2 := hR1.keeps hO2 (fun h => h)
  have hX2 := hO1.trans hO2
  have hb2 := hM2.blk
  have hs2 := hM2.sgs
  clear hM2 hR1 hO1 hO2 h1 h2 h3
  go_wp2_with fail
  refine (tabread_at w2 P ⟨nums s, false⟩ hR2).mono ?_
  rintro e w3 ⟨hO3, hend⟩
  have hb3 := hb2.keeps hO3 hpP
  have hs3 := hs2.keeps hO3 hmP (fun k hk ht => by subst hk; exact ht.ne_blk hR2.1 (by decide) rfl)
  have hX3 := hX2.andThen hO3 (fun k hk h => by have h' : k = P := h; omega)
  have hw2 : w.heap.size ≤ w2.heap.size := hX2.size
  clear hb2 hs2 hX2 hO3 hR2 h4
  have c0 := hb3.cell 0
  have f0 := hb3.free 0
  simp only [List.getElem?_toArray, List.getElem?_cons_zero] at c0
  rcases hend with ⟨hn, rfl⟩ | ⟨t, r1, T, v, hy, rfl, hT3, hR3, hT0, hv0⟩
  · have HN : RowKit.Hid (Mc.load (nums s) = none) := Lib.hid (by rw [HD.out]; unfold Mc.ldMach; rw [hn])
    clear hn HD
    go_wp2_with fail
    go_ret2
    exact ⟨hX3.setCell (p := ⟨p, 0, none⟩) (fun h => by have h' : p < w.heap.size := h; omega) _, .inl ⟨HN.out, rfl⟩⟩
  have HE : RowKit.Hid (Mc.load (nums s) = match Mc.ldSgs (r1.up 16).1 [] (fun _ => none) (r1.up 16).2 with
    | none => none
    | some (ids, f, r2) => if r2.done = true then some ⟨t, ids, f⟩ else none) := Lib.hid (by rw [HD.out]; unfold Mc.ldMach; rw [hy]; rfl)
  clear hy HD
  go_upto_region 6 with fail
  have hY := (Only.refl (fun k => k = p) w3).setCell (p := ⟨p, 0, none⟩) (fun _ => rfl) (.pointer (some ⟨T, 0, none⟩))
  have hTp : T ≠ p := fun e => by subst e; exact hT3.blk.ofT.ne_blk hb3 (by decide) rfl
  have hvp : ∀ k, v.ownBlock = some k → k ≠ p := fun k hk => (hT3.row.ofT hk).ne_blk hb3 (by decide)
  have hTP : T ≠ P := fun e => by subst e; exact hT3.blk.ofT.ne_blk hR3.1 (by decide) rfl
  have hvP : ∀ k, v.ownBlock = some k → k ≠ P := fun k hk => (hT3.row.ofT hk).ne_blk hR3.1 (by decide)
  have hTm : T ≠ mb := hs3.ofT_ne hT3.blk.ofT
  have hvm : ∀ k, v.ownBlock = some k → k ≠ mb := fun k hk => hs3.ofT_ne (hT3.row.ofT hk)
  have hb4 : Blk (w3.setCell ⟨p, 0, none⟩ (.pointer (some ⟨T, 0, none⟩))) p #[.pointer (some ⟨T, 0, none⟩), .map (some mb)] 72 := hb3.setCell 0 (.pointer (some ⟨T, 0, none⟩))
  have hs4 := hs3.keeps hY (fun e => hpm e.symm) (fun k hk ht => by subst hk; exact ht.ne_blk hb3 (by decide) rfl)
  have hT4 := hT3.keeps hY hTp hvp
  have hR4 := hR3.keeps hY (fun e => hpP e.symm)
  have hX4 := hX3.setCell (p := ⟨p, 0, none⟩) (fun h => by have h' : p < w.heap.size := h; omega) (.pointer (some ⟨T, 0, none⟩))
  have hT0' : w.heap.size ≤ T := by omega
  have hv0' : ∀ k, v.ownBlock = some k → w.heap.size ≤ k := fun k hk => by have := hv0 k hk; omega
  generalize w3.setCell ⟨p, 0, none⟩ (.pointer (some ⟨T, 0, none⟩)) = w4 at hb4 hs4 hT4 hR4 hX4 ⊢
  clear hY hb3 hs3 hT3 hR3 hX3 c0 f0 hT0 hv0 hw2
  have c0 := hb4.cell 0
  simp only [List.getElem?_toArray, List.getElem?_cons_zero] at c0
  go_wp2_with fail
  refine (rup_at w4 P r1 hR4 16 (by omega)).mono ?_
  rintro e w5 ⟨rfl, hR5, hO5⟩
  have hn16 : (r1.up 16).1 ≤ 16 := Pk.up_fst
  generalize (r1.up 16).1 = n at HE hn16 ⊢
  generalize (r1.up 16).2 = r2 at hR5 HE
  have hb5 := hb4.keeps hO5 hpP
  have hs5 := hs4.keeps hO5 hmP (fun k hk ht => by subst hk; exact ht.ne_blk hR4.1 (by decide) rfl)
  have hT5 := hT4.keeps hO5 hTP hvP
  have hX5 := hX4.andThen hO5 (fun k hk h => by have h' : k = P := h; omega)
  clear hb4 hs4 hT4 hR4 hX4 hO5 c0
  go_wp2_with fail
  go_loopw [6, 7, 8] (fun v6 v7 v8 wr => ∃ (k : Nat) (ids : List Nat) (f : Mc.Sgs) (q : Pk.RD), k ≤ n ∧ ids.length = n - k ∧ v6 = .int .u64 (Mc.lastN ids : Nat) ∧ v7 = .bool ids.isEmpty ∧ v8 = .int .i64 k ∧ Blk wr p #[.pointer (some ⟨T, 0, none⟩), .map (some mb)] 72 ∧ SgsAt wr mb f ids.length ∧ TabAt wr T v t ∧ ReaderAt wr P q ∧ Only NoBlock w wr ∧ RowKit.Hid (Mc.ldSgs n [] (fun _ => none) r2 = Mc.ldSgs k ids f q) ∧ RowKit.Hid (∀ i, (f i).isSome = true → ids ≠ [] ∧ i ≤ Mc.lastN ids)) (fun _ _ v8 _ => (intOf v8).toNat)
  case atStart => exact ⟨n, [], fun _ => none, r2, by omega, by simp, rfl, rfl, rfl, hb5, hs5, hT5, hR5, hX5, Lib.hid rfl, Lib.hid (fun i h => by cases h)⟩
  case round =>
    clear hb5 hs5 hT5 hR5 hX5
    obtain ⟨k, ids, f, q, hk, hl, rfl, rfl, rfl, hb, hsg, hT, hR, hO, HQ, HF⟩ := hrel
    have HL := Lib.hid hl
    have hlen : ids.length ≤ 16 := by omega
    clear hl
    by_cases hk0 : 0 < k
    · obtain ⟨k', rfl⟩ : ∃ k', k = k' + 1 := ⟨k - 1, by omega⟩
      have HQ2 : RowKit.Hid (Mc.ldSgs n [] (fun _ => none) r2 = match (Mc.rdSg (Pk.numR q)).1 with
        | none => none
        | some x => if ids ≠ [] ∧ Pk.numV q.s ≤ Mc.lastN ids then none else Mc.ldSgs k' (ids ++ [Pk.numV q.s]) (Mc.put f (Pk.numV q.s) x) (Mc.rdSg (Pk.numR q)).2) := Lib.hid (by rw [HQ.out]; rfl)
      clear HQ
      go_wp2_with fail
      refine (rnum_at wr P q hR).mono ?_
      rintro e w6 ⟨rfl, hR6, hO6⟩
      have bid := Pk.numV_lt hR.2.1
      have hb6 := hb.keeps hO6 hpP
      have hs6 := hsg.keeps hO6 hmP (fun k hk ht => by subst hk; exact ht.ne_blk hR.1 (by decide) rfl)
      have hT6 := hT.keeps hO6 hTP hvP
      have hX6 := hO.andThen hO6 (fun k hk h => by have h' : k = P := h; omega)
      generalize Pk.numV q.s = id at bid HQ2 ⊢
      generalize Pk.numR q = q1 at hR6 HQ2
      clear hb hsg hT hR hO hO6
      go_wp2_with fail
      refine (sgread_at w6 P q1 hR6).mono ?_
      rintro e w7 ⟨hO7, hR7, hend⟩
      have hb7 := hb6.keeps hO7 hpP
      have hs7 := hs6.keeps hO7 hmP (fun k hk ht => by subst hk; exact ht.ne_blk hR6.1 (by decide) rfl)
      have hT7 := hT6.keeps hO7 hTP hvP
      have hX7 := hX6.andThen hO7 (fun k hk h => by have h' : k = P := h; omega)
      clear hb6 hs6 hT6 hR6 hX6 hO7
      rcases hend with ⟨x, ao, cap, hx, rfl, hrow⟩ | ⟨hx, rfl⟩
      · have hso := Mc.rdSg_sound hx
        have hl0 : 0 < x.steps.length := (Mc.okSs_pos (Mc.sound_up hso).1).1
        have HQ3 : RowKit.Hid (Mc.ldSgs n [] (fun _ => none) r2 = if ids ≠ [] ∧ id ≤ Mc.lastN ids then none else Mc.ldSgs k' (ids ++ [id]) (Mc.put f id x) (Mc.rdSg q1).2) := Lib.hid (by rw [HQ2.out, hx])
        clear hso hx HQ2
        generalize (Mc.rdSg q1).2 = q2 at hR7 HQ3
        unfold sgV
        go_upto_region 14 with fail
        have hB := Blk.made w7 #[.slice ao x.steps.length cap, .int .i64 x.state, .int .i64 x.cursor, .int .i64 x.failed] 63
        have hA := (Only.refl NoBlock w7).alloc (Obj.cells #[.slice ao x.steps.length cap, .int .i64 x.state, .int .i64 x.cursor, .int .i64 x.failed] 63)
        have hb8 := hb7.keeps hA (fun h => h)
        have hs8 := hs7.keepsN hA
        have hT8 := hT7.keepsN hA
        have hR8 := hR7.keeps hA (fun h => h)
        have hX8 := hX7.trans hA
        have hr8 := hrow.keepsN hA
        generalize w7.alloc (Obj.cells #[.slice ao x.steps.length cap, .int .i64 x.state, .int .i64 x.cursor, .int .i64 x.failed] 63) = w8 at hB hb8 hs8 hT8 hR8 hX8 hr8 ⊢
        generalize w7.heap.size = S at hB ⊢
        clear hb7 hs7 hT7 hR7 hX7 hA hrow
        have s0 := hB.cell 0
        have s1 := hB.cell 1
        have s2 := hB.cell 2
        have s3 := hB.cell 3
        have c1 := hb8.cell 1
        simp only [List.getElem?_toArray, List.getElem?_cons_succ, List.getElem?_cons_zero] at s0 s1 s2 s3 c1
        have hTPx := hTP
        by_cases hbad : ids ≠ [] ∧ id ≤ Mc.lastN ids
        · have HN : RowKit.Hid (Mc.load (nums s) = none) := Lib.hid (by rw [HE.out, HQ3.out, if_pos hbad])
          have e1 : ids.isEmpty = false := by simpa using hbad.1
          have e2 : (id : Int) ≤ (Mc.lastN ids : Int) := by have := hbad.2; omega
          rw [e1]
          clear hbad HQ3
          go_wp2_with fail
          go_ret2
          exact ⟨hX8, .inl ⟨HN.out, rfl⟩⟩
        · have HQ4 : RowKit.Hid (Mc.ldSgs n [] (fun _ => none) r2 = Mc.ldSgs k' (ids ++ [id]) (Mc.put f id x) q2) := Lib.hid (by rw [HQ3.out, if_neg hbad])
          have hfn : f id = none := by
            cases hf : f id with
            | none => rfl
            | some y => exact absurd (HF.out id (by rw [hf]; rfl)) hbad
          have HFN := Lib.hid hfn
          have HF2 : RowKit.Hid (∀ i, (Mc.put f id x i).isSome = true → ids ++ [id] ≠ [] ∧ i ≤ Mc.lastN (ids ++ [id])) := Lib.hid (fun i hi => by
            refine ⟨by simp, ?_⟩
            rw [lastN_snoc]
            unfold Mc.put at hi
            by_cases e : i = id
            · omega
            · rw [if_neg e] at hi
              obtain ⟨h1, h2⟩ := HF.out i hi
              have : ¬ id ≤ Mc.lastN ids := fun h => hbad ⟨h1, h⟩
              omega)
          have hl2 : (ids ++ [id]).length = n - k' := by rw [List.length_append, HL.out]; simp; omega
          have hl3 : (if (f id).isSome = true then ids.length else ids.length + 1) = (ids ++ [id]).length := by rw [hfn]; simp
          have HL2 := Lib.hid hl2
          have HL3 := Lib.hid hl3
          have hcase : ids.isEmpty = true ∨ (ids.isEmpty = false ∧ decide ((id : Int) ≤ (Mc.lastN ids : Int)) = false ∧ decide (id ≤ Mc.lastN ids) = false ∧ (Mc.lastN ids : Int) < (id : Int)) := by
            cases ids with
            | nil => exact .inl rfl
            | cons a l =>
              have hlt : ¬ id ≤ Mc.lastN (a :: l) := fun h => hbad ⟨by simp, h⟩
              exact .inr ⟨rfl, by simp only [decide_eq_false_iff_not]; omega, by simp only [decide_eq_false_iff_not]; omega, by omega⟩
          have hmS : mb ≠ S := fun e => hs8.ofT_ne hB.ofT e.symm
          clear hbad hl2 hl3 hfn HQ3 HF
          generalize hemp : ids.isEmpty = emp at hcase ⊢
          have hdr := (Only.refl NoBlock w8).drew
          have hS8d := hs8.keepsN hdr
          have hr8d := hr8.keepsN hdr
          have hb8d := hb8.keeps hdr (fun h => h)
          have hT8d := hT8.keepsN hdr
          have hR8d := hR8.keeps hdr (fun h => h)
          have hX8d := hX8.trans hdr
          clear hemp hdr
          have fin : ∀ w9, SgsAt w9 mb (Mc.put f id x) (if (f id).isSome = true then ids.length else ids.length + 1) → w8.drew.grownBy w9 (some mb) → Blk w9 p #[.pointer (some ⟨T, 0, none⟩), .map (some mb)] 72 ∧ SgsAt w9 mb (Mc.put f id x) (ids ++ [id]).length ∧ TabAt w9 T v t ∧ ReaderAt w9 P q2 ∧ Only NoBlock w w9 := fun w9 hS9 hg9 => by
            have hOm := Only.of_grown hg9
            rw [HL3.out] at hS9
            exact ⟨hb8d.keeps hOm (fun e => hpm (by cases e; rfl)), hS9, hT8d.keeps hOm (fun e => hTm (by cases e; rfl)) (fun k hk e => hvm k hk (by cases e; rfl)), hR8d.keeps hOm (fun e => hmP (by cases e; rfl)), hX8d.grown hg9 (fun k hk hlt => by cases hk; omega)⟩
          have FIN := Lib.hid fin
          clear fin hs8 hr8 hb8d hT8 hT8d hR8 hR8d hX8 hX8d
          rcases hcase with he | ⟨he, d, dn, dl⟩
          all_goals
            subst he
            go_upto_region 17 with fail
            refine wp_region_tail 6 (by kernel_rfl) (by kernel_rfl) ?_
            simp only [List.take_succ_cons, List.take_zero, List.drop_succ_cons, List.drop_zero]
            repeat still_step
            try refine wpStill_nil ?_
            go_upto_region 11 with (first | (at_mapUpdate; refine wpList_sgstore rfl _ _ _ rfl hS8d (by omega) rfl id rfl bid x ao cap rfl hr8d hl0 ?_; intro w9 hS9 hg9))
            obtain ⟨hb9, hS9', hT9, hR9, hX9⟩ := FIN.out w9 hS9 hg9
            clear hS9 hg9 hS8d hr8d FIN s0 s1 s2 s3 c1
            go_wp2_with fail
            go_roundw
            case rel => exact ⟨k', ids ++ [id], Mc.put f id x, q2, by omega, HL2.out, by rw [lastN_snoc], by simp, by go_num, hb9, hS9', hT9, hR9, hX9, HQ4, HF2⟩
            case measure => simp [intOf]
      · have HN : RowKit.Hid (Mc.load (nums s) = none) := Lib.hid (by rw [HE.out, HQ2.out, hx])
        clear hx HQ2
        unfold sg0
        go_upto_region 14 with fail
        have hX8 := hX7.alloc (Obj.cells #[.slice none 0 0, .int .i64 0, .int .i64 0, .int .i64 0] 63)
        generalize w7.alloc (Obj.cells #[.slice none 0 0, .int .i64 0, .int .i64 0, .int .i64 0] 63) = w8 at hX8 ⊢
        go_wp2_with fail
        go_ret2
        exact ⟨hX8, .inl ⟨HN.out, rfl⟩⟩
    · obtain rfl : k = 0 := by omega
      have HZ : RowKit.Hid (Mc.load (nums s) = if q.done = true then some ⟨t, ids, f⟩ else none) := Lib.hid (by rw [HE.out, HQ.out]; rfl)
      clear HQ hk0
      go_wp2_with fail
      refine (rdone_at wr P q hR).mono ?_
      rintro e w6 ⟨rfl, m, rfl⟩
      have hN := (Only.refl NoBlock wr).drewN m
      have hM6 : MachAt (wr.drewN m) p T mb v ⟨t, ids, f⟩ := ⟨hb.keeps hN (fun h => h), hT.keepsN hN, hsg.keepsN hN⟩
      have hX6 := hO.trans hN
      clear hb hsg hT hR hO hN
      cases hd : q.done with
      | false =>
        have HN : RowKit.Hid (Mc.load (nums s) = none) := Lib.hid (by rw [HZ.out, hd]; rfl)
        clear hd HZ
        go_wp2_with fail
        go_ret2
        exact ⟨hX6, .inl ⟨HN.out, rfl⟩⟩
      | true =>
        have HY : RowKit.Hid (Mc.load (nums s) = some ⟨t, ids, f⟩) := Lib.hid (by rw [HZ.out, hd]; rfl)
        clear hd HZ
        go_wp2_with fail
        go_ret2
        exact ⟨hX6, .inr ⟨⟨t, ids, f⟩, p, T, mb, v, HY.out, rfl, hM6, hp0, hT0', hmb0, hv0'⟩⟩
end Go.Proofs.Ytogeeeigfhmpmaa

/- Writing numbers and texts, with a frame by kind: only the writer and rows of bytes may change. -/
namespace Go.Proofs.Ytogeeeigfhmpmaa
open Go.RowKit
set_option maxRecDepth 100000

theorem Bts.ofT {w : World} {base : Nat} {v : Value} {l : List Int} (h : Bts w base v l) {g : Nat} (hg : v.ownBlock = some g) : OfT w g 5 := by
  rcases h.2 with ⟨rfl, _⟩ | ⟨g', cap, cur, rfl, _, hb, _⟩
  · cases hg
  · cases hg; exact ⟨_, _, hb⟩
theorem row_S {S : Nat → Prop} {w w1 : World} {base : Nat} {v : Value} {l : List Int} (hT : ∀ k, base ≤ k → OfT w k 5 → S k) (ho : Only S w w1) (hown : Bts w1 base v l) {k : Nat} (hk : v.ownBlock = some k) (hlt : k < w.heap.size) : S k := by
  refine Classical.byContradiction (fun hn => ?_)
  obtain ⟨cs, r, hb⟩ := hown.ofT hk
  exact hn (hT k (World.ownsRow.lt hown k hk).1 ⟨cs, r, by rw [← ho.block k hlt hn]; exact hb⟩)
theorem writer_only2S {S : Nat → Prop} {w w1 w2 : World} {base p : Nat} {v v2 : Value} {l : List Int} {o : Obj} (hSp : S p) (hT : ∀ k, base ≤ k → OfT w k 5 → S k) (ho : Only S w w1) (hown : Bts w1 base v l) (hg : (w1.alloc o).drew.grownBy w2 v.ownBlock) : Only S w (w2.setCell ⟨p, 0, none⟩ v2) :=
  (((ho.alloc o).drew).grown hg (fun _ hk hlt => row_S hT ho hown hk hlt)).setCell (p := ⟨p, 0, none⟩) (fun _ => hSp) _
theorem writer_onlyS {S : Nat → Prop} {w w1 w2 : World} {base p : Nat} {v v2 : Value} {l : List Int} {o : Obj} (hSp : S p) (hT : ∀ k, base ≤ k → OfT w k 5 → S k) (ho : Only S w w1) (hown : Bts w1 base v l) (hg : (w1.alloc o).grownBy w2 v.ownBlock) : Only S w (w2.setCell ⟨p, 0, none⟩ v2) :=
  ((ho.alloc o).grown hg (fun _ hk hlt => row_S hT ho hown hk hlt)).setCell (p := ⟨p, 0, none⟩) (fun _ => hSp) _

set_option maxHeartbeats 2000000 in
theorem wnumS_at (S : Nat → Prop) (w : World) (base p : Nat) (l : List Int) (h : WriterAt w base p l) (x : Nat) (hx : x < 18446744073709551616) (hlen : l.length ≤ 100000000000000) (hSp : S p) (hST : ∀ k, base ≤ k → OfT w k 5 → S k) :
    Calls Try.prog 42 #[.pointer (some ⟨p, 0, none⟩), .int .u64 x] w fun e w' => e = .returned (.pointer (some ⟨p, 0, none⟩)) ∧ WriterAt w' base p (l ++ Pk.num x) ∧ Only S w w' := by
  obtain ⟨hbp, v, hblk, hown⟩ := h
  have hpl := hblk.lt
  have hs8 := Pk.size_le8 hx
  go_enter Try.func42, Try.ntmps42
  go_wp2_with fail
  go_loop [5, 6] (fun v5 v6 => ∃ (k y : Nat), v5 = .int .i64 k ∧ v6 = .int .u64 y ∧ y < 18446744073709551616 ∧ k + Pk.size y = Pk.size x) (fun _ v6 => (intOf v6).toNat)
  case atStart => exact ⟨0, x, rfl, rfl, hx, by omega⟩
  case round =>
    obtain ⟨k, y, rfl, rfl, hy, hk⟩ := hrel
    by_cases h0 : 0 < y
    · have hsp := Pk.size_pos h0
      go_wp2_with fail
      have e : ((y : Int) / 256) = ((y / 256 : Nat) : Int) := by omega
      exact ⟨⟨k + 1, y / 256, by go_num, by rw [e], by omega, by omega⟩, by simp [intOf]; omega⟩
    · obtain rfl : y = 0 := by omega
      have hz := Pk.size_zero
      obtain ⟨K, hK⟩ : ∃ K, Pk.size x = K := ⟨_, rfl⟩
      have hkK : k = K := by omega
      subst hkK
      rw [hK] at hs8
      have HK := Lib.hid hK
      clear hK hk hz h0
      have hap := hown.apart hblk (by decide)
      have c0 := hblk.cell 0
      have f0 := hblk.free 0
      simp at c0
      have hapd : ∀ w2, w.grownBy w2 v.ownBlock → Blk w2 p #[v] 102 := fun w2 hg => (hg.block p hpl (fun e => hap e.symm)).trans hblk
      go_upto_region 9 with (first
        | (at_builtin; refine wpList_append_byte _ rfl _ _ rfl base _ l (k : Int) ⟨w.heap.size, 0, none⟩ 1 rfl (hown.keeps ((Only.refl NoBlock _).alloc _) (fun _ _ h => h)) rfl ?_ ?_ ?_ ?_; (exact cell_byte _ _ _ _ rfl); omega; (simp; omega); intro v2 w2 hb2 hg2; have hp2 : Blk w2 p #[v] 102 := (hg2.block p (by simp; omega) (fun e => hap e.symm)).trans (hblk.alloc _); have c2 := hp2.cell 0; have f2 := hp2.free 0; simp at c2; obtain ⟨g2, cap2, rfl, _, _, _⟩ := Bts.shape hb2 (by simp)))
      have hlk : (l ++ [(k : Int)]).length = l.length + 1 := by simp
      rw [hlk] at hb2
      have hW := WriterAt.put hbp hp2 hb2
      have hO : Only S w (w2.setCell ⟨p, 0, none⟩ (.slice (some ⟨g2, 0, none⟩) (l.length + 1) cap2)) := writer_onlyS hSp hST (Only.refl _ _) hown hg2
      generalize w2.setCell ⟨p, 0, none⟩ (.slice (some ⟨g2, 0, none⟩) (l.length + 1) cap2) = w3 at hW hO ⊢
      clear hb2 hp2 hg2 hapd hap hown hblk c0 f0 c2 f2
      go_wp2_with fail
      go_loopw [7] (fun v7 wr => ∃ j : Nat, j ≤ k ∧ v7 = .int .i64 ((k : Int) - 1 - j) ∧ WriterAt wr base p ((l ++ [(k : Int)]) ++ (Pk.be k x).take j) ∧ Only S w wr) (fun v7 _ => (intOf v7 + 1).toNat)
      case atStart => exact ⟨0, by omega, by simp, by simpa using hW, hO⟩
      case round =>
        clear hW hO
        obtain ⟨j, hj, rfl, hW, hO⟩ := hrel
        by_cases hlt : j < k
        · obtain ⟨-, v, hblk, hown⟩ := hW
          have htk := Pk.be_take (x := x) hlt
          have HT := Lib.hid htk
          clear htk
          obtain ⟨m, hm⟩ : ∃ m, (l ++ [(k : Int)]) ++ (Pk.be k x).take j = m := ⟨_, rfl⟩
          have htl : m.length ≤ 100000000000009 := by
            rw [← hm, List.length_append, List.length_append, List.length_take]; simp; omega
          rw [hm] at hown
          have HM : RowKit.Hid ((l ++ [(k : Int)]) ++ (Pk.be k x).take (j + 1) = m ++ [((x / 256 ^ (k - 1 - j) % 256 : Nat) : Int)]) := Lib.hid (by rw [HT.out, ← hm, List.append_assoc, List.append_assoc, List.append_assoc])
          clear hm HT
          obtain ⟨i, hi⟩ : ∃ i, k = i + 1 + j := ⟨k - 1 - j, by omega⟩
          have hij : k - 1 - j = i := by omega
          rw [hij] at HM
          have hap := hown.apart hblk (by decide)
          have c0 := hblk.cell 0
          have f0 := hblk.free 0
          simp at c0
          have hpl2 := hblk.lt
          have hv7 : (k : Int) - 1 - j = (i : Int) := by omega
          rw [hv7]
          clear hv7
          have hi8 : i ≤ 7 := by omega
          have hw8 : IntKind.i64.wrap (8 * (i : Int)) = 8 * (i : Int) := IntWalk.i64_in _ (by omega)
          have hi0 : (0 : Int) ≤ 8 * (i : Int) := by omega
          have hsb := shr_byte x i
          have HI := Lib.hid hi
          clear hi hij hlt hj
          go_upto_region 12 with fail
          go_region_law (refine step_append_byte _ rfl _ _ rfl base _ _ ((x / 256 ^ i % 256 : Nat) : Int) ⟨wr.heap.size, 0, none⟩ 1 rfl (hown.keeps (((Only.refl NoBlock _).alloc _).drew) (fun _ _ h => h)) rfl ?_ ?_ ?_ ?_; (exact cell_byte_drew _ _ _ _ rfl); omega; (simp; omega); intro v2 w2 hb2 hg2; have hp2 : Blk w2 p #[v] 102 := (hg2.block p (by simp; omega) (fun e => hap e.symm)).trans (hblk.alloc _); have c2 := hp2.cell 0; have f2 := hp2.free 0; simp at c2; obtain ⟨g2, cap2, rfl, _, _, _⟩ := Bts.shape hb2 (by simp))
          all_goals
            have hlk : (m ++ [((x / 256 ^ i % 256 : Nat) : Int)]).length = m.length + 1 := by simp
            rw [hlk] at hb2
            have hW := WriterAt.put hbp hp2 hb2
            have hO2 : Only S w (w2.setCell ⟨p, 0, none⟩ (.slice (some ⟨g2, 0, none⟩) (m.length + 1) cap2)) := writer_only2S hSp hST hO hown hg2
            generalize w2.setCell ⟨p, 0, none⟩ (.slice (some ⟨g2, 0, none⟩) (m.length + 1) cap2) = w3 at hW hO2 ⊢
            clear hb2 hp2 hg2 c2 f2 hsb hi0 hw8
            go_wp2_with fail
            go_roundw
            case rel => exact ⟨j + 1, by have := HI.out; omega, by congr 1; have := HI.out; omega, by rw [HM.out]; exact hW, hO2⟩
            case measure => simp [intOf]
        · obtain rfl : j = k := by omega
          rw [List.take_of_length_le (by rw [Pk.be_length]; omega)] at hW
          have hn : l ++ Pk.num x = (l ++ [(j : Int)]) ++ Pk.be j x := by unfold Pk.num; rw [HK.out]; simp
          have HN := Lib.hid hn
          clear hn
          go_wp2_with fail
          go_ret
          exact ⟨rfl, by rw [HN.out]; exact hW, hO⟩

set_option maxHeartbeats 2000000 in
theorem wtextS_at (S : Nat → Prop) (w : World) (base p : Nat) (l : List Int) (h : WriterAt w base p l) (t : ByteArray) (ht : t.size ≤ 1000000000000) (hlen : l.length ≤ 10000000000000) (hSp : S p) (hST : ∀ k, base ≤ k → OfT w k 5 → S k) :
    Calls Try.prog 99 #[.pointer (some ⟨p, 0, none⟩), .string t] w fun e w' => e = .returned (.pointer (some ⟨p, 0, none⟩)) ∧ WriterAt w' base p (l ++ Pk.text (nums t)) ∧ Only S w w' := by
  have hn : l ++ Pk.text (nums t) = (l ++ Pk.num t.size) ++ nums t := by unfold Pk.text; rw [nums_length, List.append_assoc]
  have HN := Lib.hid hn
  have h8 := Pk.size_le8 (x := t.size) (by omega)
  have hnl := Pk.num_length t.size
  clear hn
  go_enter Try.func99, Try.ntmps99
  go_wp2_with fail
  refine (wnumS_at S w base p l h t.size (by omega) (by omega) hSp hST).mono ?_
  rintro e w1 ⟨rfl, hW, hO⟩
  have hml : (l ++ Pk.num t.size).length ≤ 10000000000009 := by rw [List.length_append]; omega
  have hmp : 0 < (l ++ Pk.num t.size).length := by rw [List.length_append]; omega
  generalize l ++ Pk.num t.size = m at hW HN hml hmp
  obtain ⟨hbp, v, hblk, hown⟩ := hW
  have hap := hown.apart hblk (by decide)
  have c0 := hblk.cell 0
  have f0 := hblk.free 0
  simp at c0
  have hpl := hblk.lt
  obtain ⟨g, cap, rfl, _, _, _⟩ := Bts.shape hown hmp
  go_wp2_with (first
    | (at_builtin; refine wpList_append_text _ rfl _ _ rfl base _ m t rfl hown rfl (by omega) (by omega) ?_; intro v2 w2 hb2 hg2; have hp2 : Blk w2 p #[_] 102 := (hg2.block p hpl (fun e => hap e.symm)).trans hblk; have c2 := hp2.cell 0; have f2 := hp2.free 0; simp at c2; obtain ⟨g2, cap2, rfl, _, _, _⟩ := Bts.shape hb2 (by rw [List.length_append]; omega)))
  go_ret
  have hll : (m ++ nums t).length = m.length + (nums t).length := List.length_append
  rw [hll] at hb2
  refine ⟨rfl, by rw [HN.out]; exact WriterAt.put hbp hp2 hb2, ?_⟩
  exact (hO.grown hg2 (fun k hk hlt => row_S hST hO hown hk hlt)).setCell (p := ⟨p, 0, none⟩) (fun _ => hSp) _
/-- numbers are written while a box of another kind stands by; since w0 only S was changed -/
structure BoxW (S : Nat → Prop) (w0 w : World) (base p B : Nat) (cs : Array Value) (T : TypeId) (l : List Int) : Prop where
  wr : WriterAt w base p l
  box : Blk w B cs T
  only : Only S w0 w
/-- what the writer may change is in S -/
structure WrS (S : Nat → Prop) (w0 : World) (base p : Nat) : Prop where
  p : S p
  row : ∀ k, base ≤ k → OfT w0 k 5 → S k
theorem WrS.base {w0 : World} {base p : Nat} (h : base ≤ p) : WrS (fun k => base ≤ k) w0 base p := ⟨h, fun _ hk _ => hk⟩
theorem WrS.later {S : Nat → Prop} {w0 w : World} {base p : Nat} (h : WrS S w0 base p) (ho : Only S w0 w) : ∀ k, base ≤ k → OfT w k 5 → k < w0.heap.size → S k := by
  intro k hk ht hlt
  refine Classical.byContradiction (fun hn => ?_)
  obtain ⟨cs, r, hb⟩ := ht
  exact hn (h.row k hk ⟨cs, r, by rw [← ho.block k hlt hn]; exact hb⟩)
theorem wnumB_at {S : Nat → Prop} {w w0 : World} {base p B : Nat} {cs : Array Value} {T : TypeId} {l : List Int} (h : BoxW S w0 w base p B cs T l) (hs : WrS S w0 base p) (h1 : T ≠ 102) (h2 : T ≠ 5) (x : Nat) (hx : x < 18446744073709551616) (hlen : l.length ≤ 100000000000000) :
    Calls Try.prog 42 #[.pointer (some ⟨p, 0, none⟩), .int .u64 x] w fun e w' => e = .returned (.pointer (some ⟨p, 0, none⟩)) ∧ BoxW S w0 w' base p B cs T (l ++ Pk.num x) := by
  obtain ⟨hbp, v, hblk, hown⟩ := h.wr
  refine (wnumS_at (fun k => (k < w0.heap.size → S k) ∧ k ≠ B) w base p l h.wr x hx hlen ⟨fun _ => hs.p, fun e => ?_⟩ (fun k hk ht => ⟨hs.later h.only k hk ht, fun e => ?_⟩)).mono (fun _ _ hh => ⟨hh.1, hh.2.1, h.box.keeps hh.2.2 (fun hb => hb.2 rfl), h.only.andThen hh.2.2 (fun _ hi hk => hk.1 hi)⟩)
  · subst e; exact hblk.ofT.ne_blk h.box h1 rfl
  · subst e; exact ht.ne_blk h.box h2 rfl
theorem wtextB_at {S : Nat → Prop} {w w0 : World} {base p B : Nat} {cs : Array Value} {T : TypeId} {l : List Int} (h : BoxW S w0 w base p B cs T l) (hs : WrS S w0 base p) (h1 : T ≠ 102) (h2 : T ≠ 5) (t : ByteArray) (ht : t.size ≤ 1000000000000) (hlen : l.length ≤ 10000000000000) :
    Calls Try.prog 99 #[.pointer (some ⟨p, 0, none⟩), .string t] w fun e w' => e = .returned (.pointer (some ⟨p, 0, none⟩)) ∧ BoxW S w0 w' base p B cs T (l ++ Pk.text (nums t)) := by
  obtain ⟨hbp, v, hblk, hown⟩ := h.wr
  refine (wtextS_at (fun k => (k < w0.heap.size → S k) ∧ k ≠ B) w base p l h.wr t ht hlen ⟨fun _ => hs.p, fun e => ?_⟩ (fun k hk ht => ⟨hs.later h.only k hk ht, fun e => ?_⟩)).mono (fun _ _ hh => ⟨hh.1, hh.2.1, h.box.keeps hh.2.2 (fun hb => hb.2 rfl), h.only.andThen hh.2.2 (fun _ hi hk => hk.1 hi)⟩)
  · subst e; exact hblk.ofT.ne_blk h.box h1 rfl
  · subst e; exact ht.ne_blk h.box h2 rfl
theorem WriterAt.keepsN {w w' : World} {base p : Nat} {l : List Int} (h : WriterAt w base p l) (ho : Only NoBlock w w') : WriterAt w' base p l := by
  obtain ⟨h1, v, h2, h3⟩ := h
  exact ⟨h1, v, h2.keeps ho (fun h => h), Bts.keeps h3 ho (fun _ _ h => h)⟩
theorem BoxW.drew {S : Nat → Prop} {w w0 : World} {base p B : Nat} {cs : Array Value} {T : TypeId} {l : List Int} (h : BoxW S w0 w base p B cs T l) : BoxW S w0 w.drew base p B cs T l := ⟨h.wr.keepsN (Only.refl NoBlock w).drew, h.box.drew, h.only.drew⟩
end Go.Proofs.Ytogeeeigfhmpmaa

/- Rows of numbers of 64 bits, and their bytes. -/
namespace Go.Proofs.Ytogeeeigfhmpmaa
open Go.RowKit
set_option maxRecDepth 100000

theorem num_len {x : Nat} (h : x < 18446744073709551616) : (Pk.num x).length ≤ 9 := by rw [Pk.num_length]; have := Pk.size_le8 h; omega
/-- a row of numbers of 64 bits that is read -/
structure U64sIn (w : World) (ao : Option Addr) (l : List Nat) : Prop where
  wf : ∀ x ∈ l, x < 18446744073709551616
  len : l.length ≤ 1000
  cell : ∀ i, i < l.length → ∃ b off, ao = some ⟨b, off, none⟩ ∧ w.cell? ⟨b, off + i, none⟩ = some (.int .u64 (l.getD i 0))
theorem U64sIn.keeps {S : Nat → Prop} {w w' : World} {ao : Option Addr} {l : List Nat} (h : U64sIn w ao l) (ho : Only S w w') (hs : ∀ a, ao = some a → ¬ S a.block) : U64sIn w' ao l :=
  ⟨h.wf, h.len, fun i hi => by
    obtain ⟨b, off, e, h0⟩ := h.cell i hi
    have hlt : b < w.heap.size := World.block_lt_of_cell? w _ h0
    have hb := ho.block b hlt (hs ⟨b, off, none⟩ e)
    exact ⟨b, off, e, by rw [← h0]; simp [World.cell?, hb]⟩⟩
def numsB (l : List Nat) : List Int := l.flatMap Pk.num
theorem numsB_snoc {l : List Nat} {k : Nat} (h : k < l.length) : numsB (l.take (k + 1)) = numsB (l.take k) ++ Pk.num (l.getD k 0) := by
  have e : l.take (k + 1) = l.take k ++ [l.getD k 0] := by rw [List.take_add_one, List.getElem?_eq_getElem h, List.getD_eq_getElem?_getD, List.getElem?_eq_getElem h]; rfl
  rw [e]; unfold numsB; simp
theorem numsB_len {l : List Nat} (h : ∀ x ∈ l, x < 18446744073709551616) : (numsB l).length ≤ 9 * l.length := by
  induction l with
  | nil => simp [numsB]
  | cons x r ih =>
    have h1 := num_len (h x (by simp))
    have h2 := ih (fun y hy => h y (by simp [hy]))
    have e : numsB (x :: r) = Pk.num x ++ numsB r := by simp [numsB]
    rw [e, List.length_append, List.length_cons]; omega

theorem u64s_made (w : World) (l : List Nat) (t : TypeId) (hl : l.length ≤ 1000) (hw : ∀ x ∈ l, x < 18446744073709551616) : U64sIn (w.alloc (.cells (l.map (fun (x : Nat) => Value.int .u64 (x : Int))).toArray t)) (some ⟨w.heap.size, 0, none⟩) l := by
  have hb := Blk.made w (l.map (fun (x : Nat) => Value.int .u64 (x : Int))).toArray t
  refine ⟨hw, hl, fun i hi => ⟨w.heap.size, 0, rfl, ?_⟩⟩
  rw [hb.cell, Nat.zero_add]
  rw [List.getElem?_toArray, List.getElem?_map, List.getElem?_eq_getElem hi, List.getD_eq_getElem?_getD, List.getElem?_eq_getElem hi]
  rfl
end Go.Proofs.Ytogeeeigfhmpmaa

/- The document's commands (layers 13, 16): Check, Bytes, bare, May, nums, truth. -/
namespace Go.Proofs.Ytogeeeigfhmpmaa
open Go.RowKit
set_option maxRecDepth 100000

set_option maxHeartbeats 1000000 in
theorem rnums16_at (w : World) (ao : Option Addr) (cap : Nat) (l : List Nat) (hl : U64sIn w ao l) :
    Calls Try.prog 23 #[.slice ao l.length cap] w fun e w' => e = .returned (.string (textOf (numsB l))) ∧ Only NoBlock w w' := by
  have hlen := hl.len
  go_enter Try.func23, Try.ntmps23
  go_wp2_with fail
  go_loopw [3, 4] (fun u3 u4 wr => ∃ (k : Nat), k ≤ l.length ∧ u4 = .int .i64 k ∧ u3 = .string (textOf (numsB (l.take k))) ∧ Only NoBlock w wr) (fun _ u4 _ => l.length - (intOf u4).toNat)
  case atStart => exact ⟨0, by omega, rfl, rfl, Only.refl _ _⟩
  case round =>
    obtain ⟨k, hk, rfl, rfl, hn⟩ := hrel
    by_cases hlt : k < l.length
    · obtain ⟨b, off, rfl, hc⟩ := (hl.keeps hn (fun _ _ h => h)).cell k hlt
      have hw : l.getD k 0 < 18446744073709551616 := by rw [List.getD_eq_getElem?_getD, List.getElem?_eq_getElem hlt]; exact hl.wf _ (List.getElem_mem hlt)
      have hs := numsB_snoc hlt
      have hz := numsB_len (l := l.take k) (fun x hx => hl.wf x (List.mem_of_mem_take hx))
      rw [List.length_take, Nat.min_eq_left hk] at hz
      have HS := Lib.hid hs
      clear hs
      generalize l.getD k 0 = x at hc hw HS
      have hxl := num_len hw
      have hcat : (9223372036854775807 < (textOf (numsB (l.take k))).size + (textOf (Pk.num x)).size) = False := by rw [textOf_size, textOf_size]; simp; omega
      go_wp2_with fail
      refine (dnum_at _ x hw).mono ?_
      rintro e w2 ⟨rfl, hO⟩
      go_wp2_with fail
      go_roundw
      case rel => exact ⟨k + 1, by omega, by go_num, by rw [HS.out, textOf_append], hn.trans hO⟩
      case measure => simp [intOf]; omega
    · obtain rfl : k = l.length := by omega
      rw [List.take_length]
      go_wp2_with fail
      go_ret
      exact ⟨rfl, hn⟩
theorem rnums16_as {w : World} {ao : Option Addr} {cap len : Nat} {l : List Nat} (hl : U64sIn w ao l) (hlen : l.length = len) {s : ByteArray} (hs : textOf (numsB l) = s) :
    Calls Try.prog 23 #[.slice ao len cap] w fun e w' => e = .returned (.string s) ∧ Only NoBlock w w' := by
  subst hlen; subst hs; exact rnums16_at w ao cap l hl


theorem truth_at (w : World) (b : Bool) :
    Calls Try.prog 25 #[.bool b] w fun e w' => e = .returned (.int .u64 (Pk.truth b : Nat)) ∧ w = w' := by
  cases b with
  | true =>
    go_enter Try.func25, Try.ntmps25
    go_wp2_with fail
    go_ret
    exact ⟨rfl, rfl⟩
  | false =>
    go_enter Try.func25, Try.ntmps25
    go_wp2_with fail
    go_ret
    exact ⟨rfl, rfl⟩
end Go.Proofs.Ytogeeeigfhmpmaa

/- The document's Check and Bytes of a saga's steps (layer 13). -/
namespace Go.Proofs.Ytogeeeigfhmpmaa
open Go.RowKit
set_option maxRecDepth 100000

theorem okSs_take {l : List Pk.Stp} (h1 : 1 ≤ l.length) (h64 : l.length ≤ 64) : Pk.okSs l = l.all Pk.okS := by
  unfold Pk.okSs
  simp [h1, h64]
theorem all_take {l : List Pk.Stp} {k : Nat} (hk : k < l.length) {t : Pk.Stp} (ht : l.getD k stpK.zero = t) : (l.take (k + 1)).all Pk.okS = ((l.take k).all Pk.okS && Pk.okS t) := by
  rw [List.take_succ_eq_append_getElem hk, List.all_append]
  rw [List.getD_eq_getElem?_getD, List.getElem?_eq_getElem hk] at ht
  simp at ht
  simp [ht]
/-- tontineref13.Check's answer -/
def checkV (l : List Pk.Stp) : Int := if Pk.okSs l = true then 0 else 44
theorem checkV_yes {l : List Pk.Stp} (h : Pk.okSs l = true) : checkV l = 0 := by unfold checkV; rw [if_pos h]
theorem checkV_no {l : List Pk.Stp} (h : Pk.okSs l = false) : checkV l = 44 := by unfold checkV; rw [if_neg (by simp [h])]
set_option maxHeartbeats 1600000 in
theorem rcheck_at (w : World) (ao : Option Addr) (cap : Nat) (l : List Pk.Stp) (h : RowIn stpK 38 w ao l) (hs : Smalls l) :
    Calls Try.prog 21 #[.slice ao l.length cap] w fun e w' => e = .returned (.int .i64 (checkV l)) ∧ Only NoBlock w w' := by
  have hn64 := hs.1
  go_enter Try.func21, Try.ntmps21
  by_cases h0 : l.length = 0
  · obtain rfl : l = [] := List.length_eq_zero_iff.1 h0
    have HC : RowKit.Hid (checkV [] = 44) := Lib.hid rfl
    clear h hs hn64 h0
    simp only [List.length_nil]
    go_wp2_with fail
    go_loopw [3, 4] (fun v3 v4 wr => v3 = .bool true ∧ v4 = .int .i64 0 ∧ Only NoBlock w wr) (fun _ _ _ => 0)
    case atStart => exact ⟨rfl, rfl, Only.refl _ _⟩
    case round =>
      obtain ⟨rfl, rfl, hO⟩ := hrel
      go_wp2_with fail
      go_ret
      exact ⟨by rw [HC.out]; rfl, hO⟩
  have d0 : ((l.length : Int) == 0) = false := by rw [beq_eq_false_iff_ne]; omega
  have d64 : decide (64 < (l.length : Int)) = false := by rw [decide_eq_false_iff_not]; omega
  have HOK := Lib.hid (okSs_take (l := l) (by omega) hn64)
  go_wp2_with fail
  go_loopw [3, 4] (fun v3 v4 wr => ∃ (k : Nat) (bd : Bool), k ≤ l.length ∧ v3 = .bool bd ∧ v4 = .int .i64 k ∧ RowKit.Hid ((l.take k).all Pk.okS = !bd) ∧ Only NoBlock w wr) (fun _ v4 _ => l.length - (intOf v4).toNat)
  case atStart => exact ⟨0, false, by omega, rfl, rfl, Lib.hid rfl, Only.refl _ _⟩
  case round =>
    obtain ⟨k, bd, hk, rfl, rfl, HB, hO⟩ := hrel
    by_cases hlt : k < l.length
    · cases bd with
      | true =>
        have HF : RowKit.Hid (checkV l = 44) := Lib.hid (by
          refine checkV_no ?_
          rw [HOK.out]
          have h1 : (l.take k).all Pk.okS = false := by simpa using HB.out
          rw [Bool.eq_false_iff]
          intro hall
          rw [← List.take_append_drop k l, List.all_append, h1] at hall
          simp at hall)
        go_wp2_with fail
        go_ret
        exact ⟨by rw [HF.out]; rfl, hO⟩
      | false =>
        have hin := h.keepsN hO
        obtain ⟨b, off, rfl⟩ := hin.shape (by omega)
        have e0 := hin.at hlt (j := 0) (by decide)
        have e1 := hin.at hlt (j := 1) (by decide)
        have e2 := hin.at hlt (j := 2) (by decide)
        obtain ⟨⟨pt, nm, bg⟩, ht⟩ : ∃ t, l.getD k stpK.zero = t := ⟨_, rfl⟩
        have hsm : SmallS ⟨pt, nm, bg⟩ := by
          rw [← ht, List.getD_eq_getElem?_getD, List.getElem?_eq_getElem hlt]
          exact hs.2 _ (List.getElem_mem hlt)
        obtain ⟨s1, s2, s3⟩ := hsm
        have HA := Lib.hid (all_take hlt ht)
        rw [ht] at e0 e1 e2
        simp only [stpK, List.getElem?_cons_succ, List.getElem?_cons_zero, Nat.add_zero] at e0 e1 e2
        simp only at s1 s2 s3
        clear ht hin
        have hA := (Only.refl NoBlock wr).alloc (Obj.cells #[.int .i64 (pt : Int), .string (textOf nm), .int .i64 (bg : Int)] 38)
        have hts : (textOf nm).size = nm.length := textOf_size nm
        have q1 : decide ((pt : Int) < 0) = false := by rw [decide_eq_false_iff_not]; omega
        have q2 : decide (3 < (pt : Int)) = false := by simp; omega
        have q4 : decide (16 < (nm.length : Int)) = false := by simp; omega
        have q6 : decide (9 < (bg : Int)) = false := by simp; omega
        have step : ∀ v : Bool, Pk.okS ⟨pt, nm, bg⟩ = !v → (l.take (k + 1)).all Pk.okS = !v := fun v hv => by rw [HA.out, HB.out, hv]; simp
        by_cases hn : nm.length < 1
        · have q3 : decide ((nm.length : Int) < 1) = true := by simp; omega
          have HV := Lib.hid (step true (by unfold Pk.okS; simp; try omega))
          clear step HA hn
          go_wp2_with fail
          go_roundw
          case rel => exact ⟨k + 1, true, by omega, rfl, by go_num, HV, hO.trans hA⟩
          case measure => simp [intOf]; omega
        · have q3 : decide ((nm.length : Int) < 1) = false := by simp; omega
          by_cases hb : bg < 1
          · have q5 : decide ((bg : Int) < 1) = true := by simp; omega
            have HV := Lib.hid (step true (by unfold Pk.okS; simp; omega))
            clear step HA hn hb
            go_wp2_with fail
            go_roundw
            case rel => exact ⟨k + 1, true, by omega, rfl, by go_num, HV, hO.trans hA⟩
            case measure => simp [intOf]; omega
          · have q5 : decide ((bg : Int) < 1) = false := by simp; omega
            have HV := Lib.hid (step false (by unfold Pk.okS; simp; omega))
            clear step HA hn hb
            go_wp2_with fail
            go_roundw
            case rel => exact ⟨k + 1, false, by omega, rfl, by go_num, HV, hO.trans hA⟩
            case measure => simp [intOf]; omega
    · obtain rfl : k = l.length := by omega
      have hF : Pk.okSs l = !bd := by rw [HOK.out, ← HB.out, List.take_length]
      have HF1 := Lib.hid hF
      clear hF
      cases bd with
      | true =>
        have HF : RowKit.Hid (checkV l = 44) := Lib.hid (checkV_no HF1.out)
        clear HF1
        go_wp2_with fail
        go_ret
        exact ⟨by rw [HF.out]; rfl, hO⟩
      | false =>
        have HF : RowKit.Hid (checkV l = 0) := Lib.hid (checkV_yes HF1.out)
        clear HF1
        go_wp2_with fail
        go_ret
        exact ⟨by rw [HF.out]; rfl, hO⟩
def numSs (l : List Pk.Stp) : List Int := l.flatMap Pk.encS
theorem numSs_snoc {l : List Pk.Stp} {k : Nat} (h : k < l.length) {t : Pk.Stp} (ht : l.getD k stpK.zero = t) : numSs (l.take (k + 1)) = numSs (l.take k) ++ Pk.encS t := by
  rw [List.take_succ_eq_append_getElem h]
  rw [List.getD_eq_getElem?_getD, List.getElem?_eq_getElem h] at ht
  simp at ht
  unfold numSs
  simp [ht]
theorem encS_len {t : Pk.Stp} (h : SmallS t) : (Pk.encS t).length ≤ 60 := by
  have h1 := num_len (x := t.part) (by have := h.part; omega)
  have h2 := num_len (x := t.name.length) (by have := h.name; omega)
  have h3 := num_len (x := t.budget) (by have := h.budget; omega)
  have := h.name
  unfold Pk.encS Pk.text
  simp only [List.length_append]
  omega
theorem numSs_len {l : List Pk.Stp} (h : ∀ t ∈ l, SmallS t) : (numSs l).length ≤ 60 * l.length := by
  induction l with
  | nil => simp [numSs]
  | cons x r ih =>
    have h1 := encS_len (h x (by simp))
    have h2 := ih (fun y hy => h y (by simp [hy]))
    have e : numSs (x :: r) = Pk.encS x ++ numSs r := by simp [numSs]
    rw [e, List.length_append, List.length_cons]; omega
theorem SmallS.name_byte_nums {nm : List Int} (hb : ∀ c ∈ nm, 0 ≤ c ∧ c ≤ 255) : nums (textOf nm) = nm := nums_textOf hb
end Go.Proofs.Ytogeeeigfhmpmaa

/- The document's Bytes of steps, bare, May (layers 13, 16). -/
namespace Go.Proofs.Ytogeeeigfhmpmaa
open Go.RowKit
set_option maxRecDepth 100000

/-- names are bytes -/
def Bytesy (l : List Pk.Stp) : Prop := ∀ t ∈ l, ∀ c ∈ t.name, 0 ≤ c ∧ c ≤ 255
theorem keepN {w w' : World} {b o : Nat} {v : Value} (ho : Only NoBlock w w') (h : w.cell? ⟨b, o, none⟩ = some v) : w'.cell? ⟨b, o, none⟩ = some v := by
  have hlt := World.block_lt_of_cell? w _ h
  have hb := ho.block b hlt (fun h => h)
  exact (World.cell?_of_block (a := ⟨b, o, none⟩) hb).trans h
theorem dnum_held {wr w' : World} {b o : Nat} {v0 v1 v2 : Value} {x : Nat} (h : w'.cell? ⟨b, o, none⟩ = some v0 ∧ w'.cell? ⟨b, o + 1, none⟩ = some v1 ∧ w'.cell? ⟨b, o + 2, none⟩ = some v2 ∧ Only NoBlock wr w') (hx : x < 18446744073709551616) :
    Calls Try.prog 54 #[.int .u64 x] w' fun e w'' => e = .returned (.string (textOf (Pk.num x))) ∧ w''.cell? ⟨b, o, none⟩ = some v0 ∧ w''.cell? ⟨b, o + 1, none⟩ = some v1 ∧ w''.cell? ⟨b, o + 2, none⟩ = some v2 ∧ Only NoBlock wr w'' :=
  (dnum_at w' x hx).mono (fun _ _ hh => ⟨hh.1, keepN hh.2 h.1, keepN hh.2 h.2.1, keepN hh.2 h.2.2.1, h.2.2.2.trans hh.2⟩)
theorem dtext_held {wr w' : World} {b o : Nat} {v0 v1 v2 : Value} {nm : List Int} (h : w'.cell? ⟨b, o, none⟩ = some v0 ∧ w'.cell? ⟨b, o + 1, none⟩ = some v1 ∧ w'.cell? ⟨b, o + 2, none⟩ = some v2 ∧ Only NoBlock wr w') (hx : nm.length ≤ 16) (hb : ∀ c ∈ nm, 0 ≤ c ∧ c ≤ 255) :
    Calls Try.prog 55 #[.string (textOf nm)] w' fun e w'' => e = .returned (.string (textOf (Pk.text nm))) ∧ w''.cell? ⟨b, o, none⟩ = some v0 ∧ w''.cell? ⟨b, o + 1, none⟩ = some v1 ∧ w''.cell? ⟨b, o + 2, none⟩ = some v2 ∧ Only NoBlock wr w'' := by
  refine (dtext_at w' (textOf nm) (by rw [textOf_size]; omega)).mono (fun _ _ hh => ⟨?_, keepN hh.2 h.1, keepN hh.2 h.2.1, keepN hh.2 h.2.2.1, h.2.2.2.trans hh.2⟩)
  rw [hh.1, nums_textOf hb]
theorem text_len {nm : List Int} (h : nm.length ≤ 16) : (Pk.text nm).length ≤ 25 := by
  have := num_len (x := nm.length) (by omega)
  unfold Pk.text
  rw [List.length_append]
  omega
set_option maxHeartbeats 4000000 in
theorem rbytes13_at (w : World) (ao : Option Addr) (cap : Nat) (l : List Pk.Stp) (h : RowIn stpK 38 w ao l) (hs : Smalls l) (hby : Bytesy l) :
    Calls Try.prog 24 #[.slice ao l.length cap] w fun e w' => e = .returned (.string (textOf (Pk.encSs l))) ∧ Only NoBlock w w' := by
  have hn64 := hs.1
  have hnl := num_len (x := l.length) (by omega)
  have hconv : IntKind.u64.wrap (l.length : Int) = (l.length : Int) := by rw [IntKind.wrap_u64]; omega
  go_enter Try.func24, Try.ntmps24
  go_wp2_with fail
  refine (dnum_at w l.length (by omega)).mono ?_
  rintro e w1 ⟨rfl, hO1⟩
  go_wp2_with fail
  go_loopw [3, 4] (fun v3 v4 wr => ∃ (k : Nat) (bs : List Int), k ≤ l.length ∧ v3 = .string (textOf bs) ∧ v4 = .int .i64 k ∧ bs.length ≤ 9 + 60 * k ∧ RowKit.Hid (bs = Pk.num l.length ++ numSs (l.take k)) ∧ Only NoBlock w wr) (fun _ v4 _ => l.length - (intOf v4).toNat)
  case atStart => exact ⟨0, Pk.num l.length, by omega, rfl, rfl, by omega, Lib.hid (by unfold numSs; simp), hO1⟩
  case round =>
    obtain ⟨k, bs, hk, rfl, rfl, hbl, HB, hO⟩ := hrel
    by_cases hlt : k < l.length
    · have hin := h.keepsN hO
      obtain ⟨b, off, rfl⟩ := hin.shape (by omega)
      have e0 := hin.at hlt (j := 0) (by decide)
      have e1 := hin.at hlt (j := 1) (by decide)
      have e2 := hin.at hlt (j := 2) (by decide)
      obtain ⟨⟨pt, nm, bg⟩, ht⟩ : ∃ t, l.getD k stpK.zero = t := ⟨_, rfl⟩
      have hsm : SmallS ⟨pt, nm, bg⟩ := by
        rw [← ht, List.getD_eq_getElem?_getD, List.getElem?_eq_getElem hlt]
        exact hs.2 _ (List.getElem_mem hlt)
      have hnb : ∀ c ∈ nm, 0 ≤ c ∧ c ≤ 255 := by
        have : (⟨pt, nm, bg⟩ : Pk.Stp) ∈ l := by
          rw [← ht, List.getD_eq_getElem?_getD, List.getElem?_eq_getElem hlt]
          exact List.getElem_mem hlt
        exact hby _ this
      have HNB := Lib.hid hnb
      have HEN := Lib.hid (encS_len hsm)
      obtain ⟨s1, s2, s3⟩ := hsm
      have HA := Lib.hid (numSs_snoc hlt ht)
      rw [ht] at e0 e1 e2
      simp only [stpK, List.getElem?_cons_succ, List.getElem?_cons_zero, Nat.add_zero] at e0 e1 e2
      simp only at s1 s2 s3
      clear ht hin hnb
      have n1 := num_len (x := pt) (by omega)
      have n2 := text_len s2
      have n3 := num_len (x := bg) (by omega)
      have z1 : (textOf (Pk.num pt)).size ≤ 9 := by rw [textOf_size]; exact n1
      have z2 : (textOf (Pk.text nm)).size ≤ 25 := by rw [textOf_size]; exact n2
      have z3 : (textOf (Pk.num bg)).size ≤ 9 := by rw [textOf_size]; exact n3
      have z4 : (textOf bs).size ≤ 4000 := by rw [textOf_size]; omega
      have cv1 : IntKind.u64.wrap (pt : Int) = (pt : Int) := by rw [IntKind.wrap_u64]; omega
      have cv3 : IntKind.u64.wrap (bg : Int) = (bg : Int) := by rw [IntKind.wrap_u64]; omega
      have hct1 : (9223372036854775807 < (textOf (Pk.num pt)).size + (textOf (Pk.text nm)).size) = False := by simp; omega
      have hct2 : (9223372036854775807 < (textOf (Pk.num pt)).size + (textOf (Pk.text nm)).size + (textOf (Pk.num bg)).size) = False := by simp; omega
      have hct3 : (9223372036854775807 < (textOf bs).size + ((textOf (Pk.num pt)).size + (textOf (Pk.text nm)).size + (textOf (Pk.num bg)).size)) = False := by simp; omega
      have hkl : decide (k < l.length) = true := by simpa using hlt
      have hk0 : ¬ ((k : Int) < 0) := by omega
      have hOr := (Only.refl NoBlock wr).drew
      have c0 := e0
      go_upto_region 5 with fail
      go_region_held3 (fun w' => w'.cell? ⟨b, off + k * 3, none⟩ = some (.int .i64 (pt : Int)) ∧ w'.cell? ⟨b, off + k * 3 + 1, none⟩ = some (.string (textOf nm)) ∧ w'.cell? ⟨b, off + k * 3 + 2, none⟩ = some (.int .i64 (bg : Int)) ∧ Only NoBlock wr w')
        (first | exact ⟨e0, e1, e2, hOr⟩ | exact ⟨by assumption, by assumption, by assumption, by assumption⟩ | go_keep)
        (first
          | (go_at_call 54; ((with_reducible refine (dnum_held (wr := wr) (b := b) (o := off + k * 3) (v0 := .int .i64 (pt : Int)) (v1 := .string (textOf nm)) (v2 := .int .i64 (bg : Int)) (x := pt) ?_ (by omega)).mono ?_); (assumption)); rintro e w2 ⟨rfl, q0, q1, q2, hO2⟩)
          | (go_at_call 54; ((with_reducible refine (dnum_held (wr := wr) (b := b) (o := off + k * 3) (v0 := .int .i64 (pt : Int)) (v1 := .string (textOf nm)) (v2 := .int .i64 (bg : Int)) (x := bg) ?_ (by omega)).mono ?_); (assumption)); rintro e w2 ⟨rfl, q0, q1, q2, hO2⟩)
          | (go_at_call 55; ((with_reducible refine (dtext_held (wr := wr) (b := b) (o := off + k * 3) (v0 := .int .i64 (pt : Int)) (v1 := .string (textOf nm)) (v2 := .int .i64 (bg : Int)) ?_ s2 HNB.out).mono ?_); (assumption)); rintro e w2 ⟨rfl, q0, q1, q2, hO2⟩))
      all_goals
        go_wp2_with fail
        go_roundw
        case rel => exact ⟨k + 1, bs ++ Pk.encS ⟨pt, nm, bg⟩, by omega, by unfold Pk.encS; simp only [textOf_append], by go_num, by rw [List.length_append]; have := HEN.out; omega, Lib.hid (by rw [HA.out, HB.out, List.append_assoc]), by first | exact hO.trans (by assumption) | exact hO.drew⟩
        case measure => simp [intOf]; omega
    · obtain rfl : k = l.length := by omega
      have HE : RowKit.Hid (bs = Pk.encSs l) := Lib.hid (by rw [HB.out, List.take_length]; rfl)
      clear HB
      go_wp2_with fail
      go_ret
      exact ⟨by rw [← HE.out]; rfl, hO⟩
theorem rbare_at (w : World) (c : Pk.Cmd) (ao : Option Addr) (cap : Nat) :
    Calls Try.prog 53 #[cmdV c ao cap] w fun e w' => e = .returned (.bool (Pk.bare c)) ∧ Only NoBlock w w' := by
  have HB0 := Lib.hid (show Pk.bare c = (decide (c.step = 0) && !c.back && decide (c.try_ = 0) && !c.ok) from rfl)
  obtain ⟨k, a, b, sg, l, st, bk, tr, ok, now⟩ := c
  show Calls Try.prog 53 #[.agg #[.int .i64 (k : Int), .int .u64 a, .int .u64 b, .int .u64 sg, .slice ao l.length cap, .int .i64 st, .bool bk, .int .i64 tr, .bool ok, .int .u64 now]] w _
  have hA := (Only.refl NoBlock w).alloc (Obj.cells #[.int .i64 (k : Int), .int .u64 a, .int .u64 b, .int .u64 sg, .slice ao l.length cap, .int .i64 st, .bool bk, .int .i64 tr, .bool ok, .int .u64 now] 31)
  generalize Pk.bare _ = m at HB0 ⊢
  go_enter Try.func53, Try.ntmps53
  by_cases hs : st = 0
  · have dhs : ((st : Int) == 0) = true := by simp; omega
    cases bk with
    | true =>
      have HB : RowKit.Hid (m = false) := Lib.hid ((HB0.out).trans (by simp [hs]))
      clear hs
      go_wp2_with fail
      go_ret
      exact ⟨by rw [HB.out]; rfl, hA⟩
    | false =>
      by_cases ht : tr = 0
      · have dht : ((tr : Int) == 0) = true := by simp; omega
        cases ok with
        | true =>
          have HB : RowKit.Hid (m = false) := Lib.hid ((HB0.out).trans (by simp [hs, ht]))
          clear hs ht
          go_wp2_with fail
          go_ret
          exact ⟨by rw [HB.out]; rfl, hA⟩
        | false =>
          have HB : RowKit.Hid (m = true) := Lib.hid ((HB0.out).trans (by simp [hs, ht]))
          clear hs ht
          go_wp2_with fail
          go_ret
          exact ⟨by rw [HB.out]; rfl, hA⟩
      · have dht : ((tr : Int) == 0) = false := by simp; omega
        have HB : RowKit.Hid (m = false) := Lib.hid ((HB0.out).trans (by simp [hs, ht]))
        clear hs ht
        go_wp2_with fail
        go_ret
        exact ⟨by rw [HB.out]; rfl, hA⟩
  · have dhs : ((st : Int) == 0) = false := by simp; omega
    have HB : RowKit.Hid (m = false) := Lib.hid ((HB0.out).trans (by simp [hs]))
    clear hs
    go_wp2_with fail
    go_ret
    exact ⟨by rw [HB.out]; rfl, hA⟩
set_option maxHeartbeats 1600000 in
theorem rmay1_at (w : World) (a b c : Nat) (l : List Pk.Stp) (ao : Option Addr) (cap : Nat) (st : Nat) (bk : Bool) (tr : Nat) (ok : Bool) (now : Nat) (hsm : Smalls l) (_hrow : RowIn stpK 38 w ao l) :
    Calls Try.prog 22 #[.agg #[.int .i64 1, .int .u64 a, .int .u64 b, .int .u64 c, .slice ao l.length cap, .int .i64 st, .bool bk, .int .i64 tr, .bool ok, .int .u64 now]] w fun e w' => e = .returned (.bool (Pk.may ⟨1, a, b, c, l, st, bk, tr, ok, now⟩)) ∧ Only NoBlock w w' := by
  have hA := (Only.refl NoBlock w).alloc (Obj.cells #[.int .i64 (1 : Nat), .int .u64 a, .int .u64 b, .int .u64 c, .slice ao l.length cap, .int .i64 st, .bool bk, .int .i64 tr, .bool ok, .int .u64 now] 31)
  have hn64 := hsm.1

  have hm : Pk.may ⟨1, a, b, c, l, st, bk, tr, ok, now⟩ = (decide (l.length = 0) && Pk.bare ⟨1, a, b, c, l, st, bk, tr, ok, now⟩) := by rw [may_bare (k := 1) (by omega)]; unfold Pk.bare; simp [Bool.and_assoc]
  have HM := Lib.hid hm
  clear hm _hrow hsm
  generalize Pk.may _ = m at HM ⊢
  go_enter Try.func22, Try.ntmps22
  by_cases hl : l.length = 0
  · have dl : ((l.length : Int) == 0) = true := by rw [beq_iff_eq]; omega
    have HM2 := Lib.hid (HM.out.trans (by simp [hl] : _ = Pk.bare ⟨1, a, b, c, l, st, bk, tr, ok, now⟩))
    clear hl HM
    go_wp2_with fail
    refine (rbare_at _ ⟨1, a, b, c, l, st, bk, tr, ok, now⟩ ao cap).mono ?_
    rintro e w2 ⟨rfl, hO2⟩
    go_wp2_with fail
    go_ret
    exact ⟨by rw [HM2.out]; rfl, hA.trans hO2⟩
  · have dl : ((l.length : Int) == 0) = false := by rw [beq_eq_false_iff_ne]; omega
    have HB : RowKit.Hid (m = false) := Lib.hid (HM.out.trans (by simp [hl]))
    clear hl HM
    go_wp2_with fail
    go_ret
    exact ⟨by rw [HB.out]; rfl, hA⟩
set_option maxHeartbeats 1600000 in
theorem rmay3_at (w : World) (a b c : Nat) (l : List Pk.Stp) (ao : Option Addr) (cap : Nat) (st : Nat) (bk : Bool) (tr : Nat) (ok : Bool) (now : Nat) (hsm : Smalls l) (_hrow : RowIn stpK 38 w ao l) :
    Calls Try.prog 22 #[.agg #[.int .i64 3, .int .u64 a, .int .u64 b, .int .u64 c, .slice ao l.length cap, .int .i64 st, .bool bk, .int .i64 tr, .bool ok, .int .u64 now]] w fun e w' => e = .returned (.bool (Pk.may ⟨3, a, b, c, l, st, bk, tr, ok, now⟩)) ∧ Only NoBlock w w' := by
  have hA := (Only.refl NoBlock w).alloc (Obj.cells #[.int .i64 (3 : Nat), .int .u64 a, .int .u64 b, .int .u64 c, .slice ao l.length cap, .int .i64 st, .bool bk, .int .i64 tr, .bool ok, .int .u64 now] 31)
  have hn64 := hsm.1

  have hm : Pk.may ⟨3, a, b, c, l, st, bk, tr, ok, now⟩ = (decide (l.length = 0) && Pk.bare ⟨3, a, b, c, l, st, bk, tr, ok, now⟩) := by rw [may_bare (k := 3) (by omega)]; unfold Pk.bare; simp [Bool.and_assoc]
  have HM := Lib.hid hm
  clear hm _hrow hsm
  generalize Pk.may _ = m at HM ⊢
  go_enter Try.func22, Try.ntmps22
  by_cases hl : l.length = 0
  · have dl : ((l.length : Int) == 0) = true := by rw [beq_iff_eq]; omega
    have HM2 := Lib.hid (HM.out.trans (by simp [hl] : _ = Pk.bare ⟨3, a, b, c, l, st, bk, tr, ok, now⟩))
    clear hl HM
    go_wp2_with fail
    refine (rbare_at _ ⟨3, a, b, c, l, st, bk, tr, ok, now⟩ ao cap).mono ?_
    rintro e w2 ⟨rfl, hO2⟩
    go_wp2_with fail
    go_ret
    exact ⟨by rw [HM2.out]; rfl, hA.trans hO2⟩
  · have dl : ((l.length : Int) == 0) = false := by rw [beq_eq_false_iff_ne]; omega
    have HB : RowKit.Hid (m = false) := Lib.hid (HM.out.trans (by simp [hl]))
    clear hl HM
    go_wp2_with fail
    go_ret
    exact ⟨by rw [HB.out]; rfl, hA⟩
set_option maxHeartbeats 1600000 in
theorem rmay5_at (w : World) (a b c : Nat) (l : List Pk.Stp) (ao : Option Addr) (cap : Nat) (st : Nat) (bk : Bool) (tr : Nat) (ok : Bool) (now : Nat) (hsm : Smalls l) (_hrow : RowIn stpK 38 w ao l) :
    Calls Try.prog 22 #[.agg #[.int .i64 5, .int .u64 a, .int .u64 b, .int .u64 c, .slice ao l.length cap, .int .i64 st, .bool bk, .int .i64 tr, .bool ok, .int .u64 now]] w fun e w' => e = .returned (.bool (Pk.may ⟨5, a, b, c, l, st, bk, tr, ok, now⟩)) ∧ Only NoBlock w w' := by
  have hA := (Only.refl NoBlock w).alloc (Obj.cells #[.int .i64 (5 : Nat), .int .u64 a, .int .u64 b, .int .u64 c, .slice ao l.length cap, .int .i64 st, .bool bk, .int .i64 tr, .bool ok, .int .u64 now] 31)
  have hn64 := hsm.1

  have hm : Pk.may ⟨5, a, b, c, l, st, bk, tr, ok, now⟩ = (decide (l.length = 0) && Pk.bare ⟨5, a, b, c, l, st, bk, tr, ok, now⟩) := by rw [may_bare (k := 5) (by omega)]; unfold Pk.bare; simp [Bool.and_assoc]
  have HM := Lib.hid hm
  clear hm _hrow hsm
  generalize Pk.may _ = m at HM ⊢
  go_enter Try.func22, Try.ntmps22
  by_cases hl : l.length = 0
  · have dl : ((l.length : Int) == 0) = true := by rw [beq_iff_eq]; omega
    have HM2 := Lib.hid (HM.out.trans (by simp [hl] : _ = Pk.bare ⟨5, a, b, c, l, st, bk, tr, ok, now⟩))
    clear hl HM
    go_wp2_with fail
    refine (rbare_at _ ⟨5, a, b, c, l, st, bk, tr, ok, now⟩ ao cap).mono ?_
    rintro e w2 ⟨rfl, hO2⟩
    go_wp2_with fail
    go_ret
    exact ⟨by rw [HM2.out]; rfl, hA.trans hO2⟩
  · have dl : ((l.length : Int) == 0) = false := by rw [beq_eq_false_iff_ne]; omega
    have HB : RowKit.Hid (m = false) := Lib.hid (HM.out.trans (by simp [hl]))
    clear hl HM
    go_wp2_with fail
    go_ret
    exact ⟨by rw [HB.out]; rfl, hA⟩
set_option maxHeartbeats 1600000 in
theorem rmay2_at (w : World) (a b c : Nat) (l : List Pk.Stp) (ao : Option Addr) (cap : Nat) (st : Nat) (bk : Bool) (tr : Nat) (ok : Bool) (now : Nat) (hsm : Smalls l) (hrow : RowIn stpK 38 w ao l) :
    Calls Try.prog 22 #[.agg #[.int .i64 2, .int .u64 a, .int .u64 b, .int .u64 c, .slice ao l.length cap, .int .i64 st, .bool bk, .int .i64 tr, .bool ok, .int .u64 now]] w fun e w' => e = .returned (.bool (Pk.may ⟨2, a, b, c, l, st, bk, tr, ok, now⟩)) ∧ Only NoBlock w w' := by
  have hA := (Only.refl NoBlock w).alloc (Obj.cells #[.int .i64 (2 : Nat), .int .u64 a, .int .u64 b, .int .u64 c, .slice ao l.length cap, .int .i64 st, .bool bk, .int .i64 tr, .bool ok, .int .u64 now] 31)
  have hn64 := hsm.1

  have hm : Pk.may ⟨2, a, b, c, l, st, bk, tr, ok, now⟩ = (Pk.okSs l && Pk.bare ⟨2, a, b, c, l, st, bk, tr, ok, now⟩) := by rw [may_two]; unfold Pk.bare; simp [Bool.and_assoc]
  have HM := Lib.hid hm
  clear hm
  generalize Pk.may _ = m at HM ⊢
  have hck := rcheck_at _ ao cap l (hrow.keepsN hA) hsm
  have hBx0 := Blk.made w #[.int .i64 (2 : Nat), .int .u64 a, .int .u64 b, .int .u64 c, .slice ao l.length cap, .int .i64 st, .bool bk, .int .i64 tr, .bool ok, .int .u64 now] 31
  go_enter Try.func22, Try.ntmps22
  go_wp2_with fail
  refine hck.mono ?_
  rintro e w2 ⟨rfl, hO2⟩
  have hO := hA.trans hO2
  have hBx := hBx0.keeps hO2 (fun h => h)
  have c0 := hBx.cell 0
  have c1 := hBx.cell 1
  have c2 := hBx.cell 2
  have c3 := hBx.cell 3
  have c4 := hBx.cell 4
  have c5 := hBx.cell 5
  have c6 := hBx.cell 6
  have c7 := hBx.cell 7
  have c8 := hBx.cell 8
  have c9 := hBx.cell 9
  simp only [List.getElem?_toArray, List.getElem?_cons_succ, List.getElem?_cons_zero] at c0 c1 c2 c3 c4 c5 c6 c7 c8 c9
  clear hrow hsm hck hO2 hA hBx hBx0
  cases hok : Pk.okSs l with
  | false =>
    have HB : RowKit.Hid (m = false) := Lib.hid (HM.out.trans (by simp [hok]))
    rw [checkV_no hok]
    clear hok
    go_wp2_with fail
    go_ret
    exact ⟨by rw [HB.out]; rfl, hO⟩
  | true =>
    have HM2 := Lib.hid (HM.out.trans (by simp [hok] : _ = Pk.bare ⟨2, a, b, c, l, st, bk, tr, ok, now⟩))
    rw [checkV_yes hok]
    clear hok HM
    go_wp2_with fail
    refine (rbare_at _ ⟨2, a, b, c, l, st, bk, tr, ok, now⟩ ao cap).mono ?_
    rintro e w3 ⟨rfl, hO3⟩
    go_wp2_with fail
    go_ret
    exact ⟨by rw [HM2.out]; rfl, hO.trans hO3⟩
set_option maxHeartbeats 1600000 in
theorem rmay4_at (w : World) (a b c : Nat) (l : List Pk.Stp) (ao : Option Addr) (cap : Nat) (st : Nat) (bk : Bool) (tr : Nat) (ok : Bool) (now : Nat) (hsm : Smalls l) (_hrow : RowIn stpK 38 w ao l) :
    Calls Try.prog 22 #[.agg #[.int .i64 4, .int .u64 a, .int .u64 b, .int .u64 c, .slice ao l.length cap, .int .i64 st, .bool bk, .int .i64 tr, .bool ok, .int .u64 now]] w fun e w' => e = .returned (.bool (Pk.may ⟨4, a, b, c, l, st, bk, tr, ok, now⟩)) ∧ Only NoBlock w w' := by
  have hA := (Only.refl NoBlock w).alloc (Obj.cells #[.int .i64 (4 : Nat), .int .u64 a, .int .u64 b, .int .u64 c, .slice ao l.length cap, .int .i64 st, .bool bk, .int .i64 tr, .bool ok, .int .u64 now] 31)
  have hn64 := hsm.1

  have hm := may_four a b c l st bk tr ok now
  have HM := Lib.hid hm
  clear hm
  clear _hrow hsm
  generalize Pk.may _ = m at HM ⊢
  generalize l.length = n at HM hA hn64 ⊢
  go_enter Try.func22, Try.ntmps22
  by_cases hl : n = 0
  · have dhl : ((n : Int) == 0) = true := by simp; omega
    by_cases hs : st < 64
    · have dhs : decide ((st : Int) ≤ 63) = true := by simp; omega
      by_cases ht : tr < 9
      · have dht : decide ((tr : Int) ≤ 8) = true := by simp; omega
        by_cases ha : a = 0
        · have dha : ((a : Int) == 0) = true := by simp; omega
          by_cases hb : b = 0
          · have dhb : ((b : Int) == 0) = true := by simp; omega
            have HB : RowKit.Hid (m = true) := Lib.hid ((HM.out).trans (by simp [hl, hs, ht, ha, hb]))
            clear hl hs ht ha hb
            go_wp2_with fail
            go_ret
            exact ⟨by rw [HB.out]; rfl, hA⟩
          · have dhb : ((b : Int) == 0) = false := by simp; omega
            have HB : RowKit.Hid (m = false) := Lib.hid ((HM.out).trans (by simp [hl, hs, ht, ha, hb]))
            clear hl hs ht ha hb
            go_wp2_with fail
            go_ret
            exact ⟨by rw [HB.out]; rfl, hA⟩
        · have dha : ((a : Int) == 0) = false := by simp; omega
          have HB : RowKit.Hid (m = false) := Lib.hid ((HM.out).trans (by simp [hl, hs, ht, ha]))
          clear hl hs ht ha
          go_wp2_with fail
          go_ret
          exact ⟨by rw [HB.out]; rfl, hA⟩
      · have dht : decide ((tr : Int) ≤ 8) = false := by simp; omega
        have HB : RowKit.Hid (m = false) := Lib.hid ((HM.out).trans (by simp [hl, hs, ht]))
        clear hl hs ht
        go_wp2_with fail
        go_ret
        exact ⟨by rw [HB.out]; rfl, hA⟩
    · have dhs : decide ((st : Int) ≤ 63) = false := by simp; omega
      have HB : RowKit.Hid (m = false) := Lib.hid ((HM.out).trans (by simp [hl, hs]))
      clear hl hs
      go_wp2_with fail
      go_ret
      exact ⟨by rw [HB.out]; rfl, hA⟩
  · have dhl : ((n : Int) == 0) = false := by simp; omega
    have HB : RowKit.Hid (m = false) := Lib.hid ((HM.out).trans (by simp [hl]))
    clear hl
    go_wp2_with fail
    go_ret
    exact ⟨by rw [HB.out]; rfl, hA⟩
set_option maxHeartbeats 1600000 in
theorem rmayE_at (w : World) (k : Nat) (h1 : ¬ k = 1) (h2 : ¬ k = 2) (h3 : ¬ k = 3) (h4 : ¬ k = 4) (h5 : ¬ k = 5) (a b c : Nat) (l : List Pk.Stp) (ao : Option Addr) (cap : Nat) (st : Nat) (bk : Bool) (tr : Nat) (ok : Bool) (now : Nat) (hsm : Smalls l) (_hrow : RowIn stpK 38 w ao l) :
    Calls Try.prog 22 #[.agg #[.int .i64 k, .int .u64 a, .int .u64 b, .int .u64 c, .slice ao l.length cap, .int .i64 st, .bool bk, .int .i64 tr, .bool ok, .int .u64 now]] w fun e w' => e = .returned (.bool (Pk.may ⟨k, a, b, c, l, st, bk, tr, ok, now⟩)) ∧ Only NoBlock w w' := by
  have hA := (Only.refl NoBlock w).alloc (Obj.cells #[.int .i64 k, .int .u64 a, .int .u64 b, .int .u64 c, .slice ao l.length cap, .int .i64 st, .bool bk, .int .i64 tr, .bool ok, .int .u64 now] 31)
  have hn64 := hsm.1
  have HB : RowKit.Hid (Pk.may _ = false) := Lib.hid (may_else h1 h2 h3 h4 h5 a b c l st bk tr ok now)
  have d1 : ((k : Int) == 1) = false := by simp; omega
  have d2 : ((k : Int) == 2) = false := by simp; omega
  have d3 : ((k : Int) == 3) = false := by simp; omega
  have d4 : ((k : Int) == 4) = false := by simp; omega
  have d5 : ((k : Int) == 5) = false := by simp; omega
  clear h1 h2 h3 h4 h5 _hrow hsm
  go_enter Try.func22, Try.ntmps22
  go_wp2_with fail
  go_ret
  exact ⟨by rw [HB.out]; rfl, hA⟩
theorem rmaycmd_at (w : World) (c : Pk.Cmd) (ao : Option Addr) (cap : Nat) (hsm : Smalls c.steps) (hrow : RowIn stpK 38 w ao c.steps) :
    Calls Try.prog 22 #[cmdV c ao cap] w fun e w' => e = .returned (.bool (Pk.may c)) ∧ Only NoBlock w w' := by
  obtain ⟨k, a, b, s, l, st, bk, tr, ok, now⟩ := c
  by_cases h1 : k = 1
  · subst h1; exact rmay1_at w a b s l ao cap st bk tr ok now hsm hrow
  by_cases h2 : k = 2
  · subst h2; exact rmay2_at w a b s l ao cap st bk tr ok now hsm hrow
  by_cases h3 : k = 3
  · subst h3; exact rmay3_at w a b s l ao cap st bk tr ok now hsm hrow
  by_cases h4 : k = 4
  · subst h4; exact rmay4_at w a b s l ao cap st bk tr ok now hsm hrow
  by_cases h5 : k = 5
  · subst h5; exact rmay5_at w a b s l ao cap st bk tr ok now hsm hrow
  exact rmayE_at w k h1 h2 h3 h4 h5 a b s l ao cap st bk tr ok now hsm hrow
end Go.Proofs.Ytogeeeigfhmpmaa

/- The document's Encode of a command (layer 16). -/
namespace Go.Proofs.Ytogeeeigfhmpmaa
open Go.RowKit
set_option maxRecDepth 100000

/-- tontineref16.Encode's answer -/
def encE (c : Pk.Cmd) : Value := if c.kind = 2 ∧ Pk.okSs c.steps = false then .tuple #[.string ⟨#[]⟩, .int .i64 44] else if Pk.may c = false then .tuple #[.string ⟨#[]⟩, .int .i64 1] else .tuple #[.string (textOf (Pk.enc c)), .int .i64 0]
theorem encE_may {c : Pk.Cmd} (h : Pk.may c = true) : encE c = .tuple #[.string (textOf (Pk.enc c)), .int .i64 0] := by
  unfold encE
  rw [if_neg, if_neg (by simp [h])]
  rintro ⟨h2, hs⟩
  unfold Pk.may at h
  rw [if_neg (by omega), if_pos h2, hs] at h
  cases h
theorem encSs_len {l : List Pk.Stp} (h : Smalls l) : (Pk.encSs l).length ≤ 4000 := by
  have h1 := num_len (x := l.length) (by have := h.1; omega)
  have h2 := numSs_len h.2
  have h3 := h.1
  unfold numSs at h2
  unfold Pk.encSs
  rw [List.length_append]
  omega
theorem truth_conv (n : Nat) (h : n < 1000) : IntKind.u64.wrap (n : Int) = (n : Int) := by rw [IntKind.wrap_u64]; omega
theorem encE_no {c : Pk.Cmd} (h : Pk.may c = false) (h2 : ¬ (c.kind = 2 ∧ Pk.okSs c.steps = false)) : encE c = .tuple #[.string ⟨#[]⟩, .int .i64 1] := by
  unfold encE
  rw [if_neg h2, if_pos h]
theorem encE_def {c : Pk.Cmd} (h2 : c.kind = 2 ∧ Pk.okSs c.steps = false) : encE c = .tuple #[.string ⟨#[]⟩, .int .i64 44] := by
  unfold encE
  rw [if_pos h2]
set_option maxHeartbeats 4000000 in
theorem rencE_at (w : World) (a b sg : Nat) (l : List Pk.Stp) (ao : Option Addr) (cap : Nat) (st : Nat) (bk : Bool) (tr : Nat) (ok : Bool) (now : Nat) (k : Nat) (hk5 : k ≤ 5) (h2 : k ≠ 2) (h4 : k ≠ 4) (hwf : Pk.Cmd.Wf ⟨k, a, b, sg, l, st, bk, tr, ok, now⟩) (_hst : st < 1000) (_htr : tr < 1000) (hsm : Smalls l) (_hby : Bytesy l) (hrow : RowIn stpK 38 w ao l) :
    Calls Try.prog 9 #[.agg #[.int .i64 k, .int .u64 a, .int .u64 b, .int .u64 sg, .slice ao l.length cap, .int .i64 (st : Int), .bool bk, .int .i64 (tr : Int), .bool ok, .int .u64 now]] w fun e w' => e = .returned (encE ⟨k, a, b, sg, l, st, bk, tr, ok, now⟩) ∧ Only NoBlock w w' := by
  have hw1 := hwf.session
  have hw2 := hwf.seq
  have hw3 := hwf.saga
  have hw4 := hwf.now
  simp only at hw1 hw2 hw3 hw4
  have hn64 := hsm.1
  go_enter Try.func9, Try.ntmps9
  go_upto_region 1 with fail
  have hB := Blk.made w #[.int .i64 k, .int .u64 a, .int .u64 b, .int .u64 sg, .slice ao l.length cap, .int .i64 (st : Int), .bool bk, .int .i64 (tr : Int), .bool ok, .int .u64 now] 31
  have hO := (Only.refl NoBlock w).alloc (Obj.cells #[.int .i64 k, .int .u64 a, .int .u64 b, .int .u64 sg, .slice ao l.length cap, .int .i64 (st : Int), .bool bk, .int .i64 (tr : Int), .bool ok, .int .u64 now] 31)
  have hr := hrow.keepsN hO
  generalize w.alloc (Obj.cells #[.int .i64 k, .int .u64 a, .int .u64 b, .int .u64 sg, .slice ao l.length cap, .int .i64 (st : Int), .bool bk, .int .i64 (tr : Int), .bool ok, .int .u64 now] 31) = w1 at hB hO hr ⊢
  generalize w.heap.size = X at hB ⊢
  clear hrow hwf
  have d2 : ((k : Int) == 2) = false := by simp; omega
  have d4 : ((k : Int) == 4) = false := by simp; omega
  have HEQ : RowKit.Hid (textOf (numsB [k, a, b, sg, now]) = textOf (Pk.enc ⟨k, a, b, sg, l, st, bk, tr, ok, now⟩)) := Lib.hid (by unfold Pk.enc numsB; simp [h2, h4])
  have HK := Lib.hid (And.intro h2 h4)
  have c0 := hB.cell 0
  have c1 := hB.cell 1
  have c2 := hB.cell 2
  have c3 := hB.cell 3
  have c4 := hB.cell 4
  have c5 := hB.cell 5
  have c6 := hB.cell 6
  have c7 := hB.cell 7
  have c8 := hB.cell 8
  have c9 := hB.cell 9
  simp only [List.getElem?_toArray, List.getElem?_cons_succ, List.getElem?_cons_zero] at c0 c1 c2 c3 c4 c5 c6 c7 c8 c9
  go_upto_region 3 with fail
  clear c0 c1 c2 c3 c4 c5 c6 c7 c8 c9
  have c0 := hB.cell 0
  have c1 := hB.cell 1
  have c2 := hB.cell 2
  have c3 := hB.cell 3
  have c4 := hB.cell 4
  have c5 := hB.cell 5
  have c6 := hB.cell 6
  have c7 := hB.cell 7
  have c8 := hB.cell 8
  have c9 := hB.cell 9
  simp only [List.getElem?_toArray, List.getElem?_cons_succ, List.getElem?_cons_zero] at c0 c1 c2 c3 c4 c5 c6 c7 c8 c9
  go_wp2_with fail
  refine (rmaycmd_at w1 ⟨k, a, b, sg, l, st, bk, tr, ok, now⟩ ao cap hsm hr).mono ?_
  rintro e w2 ⟨rfl, hO2⟩
  have hB2 := hB.keeps hO2 (fun h => h)
  have hOa := hO.trans hO2
  have hr2 := hr.keepsN hO2
  clear hB hO hr hO2
  clear c0 c1 c2 c3 c4 c5 c6 c7 c8 c9
  cases hmy : Pk.may ⟨k, a, b, sg, l, st, bk, tr, ok, now⟩ with
  | false =>
    have HE := Lib.hid (encE_no hmy (fun h => by simp at h <;> omega))
    clear hmy
    go_wp2_with fail
    go_ret2
    exact ⟨by rw [HE.out]; rfl, hOa⟩
  | true =>
    have HE := Lib.hid (encE_may hmy)
    clear hmy
    have c0 := hB2.cell 0
    have c1 := hB2.cell 1
    have c2 := hB2.cell 2
    have c3 := hB2.cell 3
    have c4 := hB2.cell 4
    have c5 := hB2.cell 5
    have c6 := hB2.cell 6
    have c7 := hB2.cell 7
    have c8 := hB2.cell 8
    have c9 := hB2.cell 9
    simp only [List.getElem?_toArray, List.getElem?_cons_succ, List.getElem?_cons_zero] at c0 c1 c2 c3 c4 c5 c6 c7 c8 c9
    have hcvk := truth_conv k (by omega)
    go_upto_region 5 with fail
    have hrw := u64s_made w2 [k, a, b, sg, now] 28 (by simp) (by intro y hy; simp at hy; rcases hy with rfl | rfl | rfl | rfl | rfl <;> omega)
    have hAl := (Only.refl NoBlock w2).alloc (Obj.cells (List.map (fun (x : Nat) => Value.int .u64 (x : Int)) [k, a, b, sg, now]).toArray 28)
    have HN := Lib.hid (rfl : textOf (numsB [k, a, b, sg, now]) = textOf (numsB [k, a, b, sg, now]))
    have hl5 := numsB_len (l := [k, a, b, sg, now]) (by intro y hy; simp at hy; rcases hy with rfl | rfl | rfl | rfl | rfl <;> omega)
    simp only [List.length_cons, List.length_nil] at hl5
    go_wp2_with fail
    refine (rnums16_as hrw rfl rfl).mono ?_
    rintro e w3 ⟨rfl, hO3⟩
    have hB3 := (hB2.keeps hAl (fun h => h)).keeps hO3 (fun h => h)
    have hOb := (hOa.trans hAl).trans hO3
    have hr3 := (hr2.keepsN hAl).keepsN hO3
    clear hB2 hOa hr2 hO3 hrw hAl
    clear c0 c1 c2 c3 c4 c5 c6 c7 c8 c9
    have c0 := hB3.cell 0
    have c1 := hB3.cell 1
    have c2 := hB3.cell 2
    have c3 := hB3.cell 3
    have c4 := hB3.cell 4
    have c5 := hB3.cell 5
    have c6 := hB3.cell 6
    have c7 := hB3.cell 7
    have c8 := hB3.cell 8
    have c9 := hB3.cell 9
    simp only [List.getElem?_toArray, List.getElem?_cons_succ, List.getElem?_cons_zero] at c0 c1 c2 c3 c4 c5 c6 c7 c8 c9
    go_wp2_with fail
    go_ret2
    exact ⟨by rw [HE.out, ← HEQ.out]; rfl, hOb⟩
set_option maxHeartbeats 4000000 in
theorem renc2_at (w : World) (a b sg : Nat) (l : List Pk.Stp) (ao : Option Addr) (cap : Nat) (st : Nat) (bk : Bool) (tr : Nat) (ok : Bool) (now : Nat)  (hwf : Pk.Cmd.Wf ⟨2, a, b, sg, l, st, bk, tr, ok, now⟩) (_hst : st < 1000) (_htr : tr < 1000) (hsm : Smalls l) (hby : Bytesy l) (hrow : RowIn stpK 38 w ao l) :
    Calls Try.prog 9 #[.agg #[.int .i64 2, .int .u64 a, .int .u64 b, .int .u64 sg, .slice ao l.length cap, .int .i64 (st : Int), .bool bk, .int .i64 (tr : Int), .bool ok, .int .u64 now]] w fun e w' => e = .returned (encE ⟨2, a, b, sg, l, st, bk, tr, ok, now⟩) ∧ Only NoBlock w w' := by
  have hw1 := hwf.session
  have hw2 := hwf.seq
  have hw3 := hwf.saga
  have hw4 := hwf.now
  simp only at hw1 hw2 hw3 hw4
  have hn64 := hsm.1
  go_enter Try.func9, Try.ntmps9
  go_upto_region 1 with fail
  have hB := Blk.made w #[.int .i64 2, .int .u64 a, .int .u64 b, .int .u64 sg, .slice ao l.length cap, .int .i64 (st : Int), .bool bk, .int .i64 (tr : Int), .bool ok, .int .u64 now] 31
  have hO := (Only.refl NoBlock w).alloc (Obj.cells #[.int .i64 2, .int .u64 a, .int .u64 b, .int .u64 sg, .slice ao l.length cap, .int .i64 (st : Int), .bool bk, .int .i64 (tr : Int), .bool ok, .int .u64 now] 31)
  have hr := hrow.keepsN hO
  generalize w.alloc (Obj.cells #[.int .i64 2, .int .u64 a, .int .u64 b, .int .u64 sg, .slice ao l.length cap, .int .i64 (st : Int), .bool bk, .int .i64 (tr : Int), .bool ok, .int .u64 now] 31) = w1 at hB hO hr ⊢
  generalize w.heap.size = X at hB ⊢
  clear hrow hwf
  have HEQ : RowKit.Hid (textOf (numsB [2, a, b, sg, now]) ++ textOf (Pk.encSs l) = textOf (Pk.enc ⟨2, a, b, sg, l, st, bk, tr, ok, now⟩)) := Lib.hid (by rw [← textOf_append]; unfold Pk.enc numsB; simp)
  have c0 := hB.cell 0
  have c1 := hB.cell 1
  have c2 := hB.cell 2
  have c3 := hB.cell 3
  have c4 := hB.cell 4
  have c5 := hB.cell 5
  have c6 := hB.cell 6
  have c7 := hB.cell 7
  have c8 := hB.cell 8
  have c9 := hB.cell 9
  simp only [List.getElem?_toArray, List.getElem?_cons_succ, List.getElem?_cons_zero] at c0 c1 c2 c3 c4 c5 c6 c7 c8 c9
  go_wp2_with fail
  refine (rcheck_at w1 ao cap l hr hsm).mono ?_
  rintro e w1' ⟨rfl, hO'⟩
  have hB' := hB.keeps hO' (fun h => h)
  have hO'' := hO.trans hO'
  have hr' := hr.keepsN hO'
  clear hB hO hr hO'
  clear c0 c1 c2 c3 c4 c5 c6 c7 c8 c9
  have hB := hB'
  have hO := hO''
  have hr := hr'
  clear hB' hO'' hr'
  cases hok : Pk.okSs l with
  | false =>
    have HE := Lib.hid (encE_def (c := ⟨2, a, b, sg, l, st, bk, tr, ok, now⟩) ⟨rfl, hok⟩)
    rw [checkV_no hok]
    clear hok
    go_wp2_with fail
    go_ret2
    exact ⟨by rw [HE.out]; rfl, hO⟩
  | true =>
    rw [checkV_yes hok]
    have HOK := Lib.hid hok
    clear hok
    have c0 := hB.cell 0
    have c1 := hB.cell 1
    have c2 := hB.cell 2
    have c3 := hB.cell 3
    have c4 := hB.cell 4
    have c5 := hB.cell 5
    have c6 := hB.cell 6
    have c7 := hB.cell 7
    have c8 := hB.cell 8
    have c9 := hB.cell 9
    simp only [List.getElem?_toArray, List.getElem?_cons_succ, List.getElem?_cons_zero] at c0 c1 c2 c3 c4 c5 c6 c7 c8 c9
    go_wp2_with fail
    refine (rmaycmd_at w1' ⟨2, a, b, sg, l, st, bk, tr, ok, now⟩ ao cap hsm hr).mono ?_
    rintro e w2 ⟨rfl, hO2⟩
    have hB2 := hB.keeps hO2 (fun h => h)
    have hOa := hO.trans hO2
    have hr2 := hr.keepsN hO2
    clear hB hO hr hO2
    clear c0 c1 c2 c3 c4 c5 c6 c7 c8 c9
    cases hmy : Pk.may ⟨2, a, b, sg, l, st, bk, tr, ok, now⟩ with
    | false =>
      have HE := Lib.hid (encE_no hmy (fun h => by rw [HOK.out] at h; simp at h))
      clear hmy
      go_wp2_with fail
      go_ret2
      exact ⟨by rw [HE.out]; rfl, hOa⟩
    | true =>
      have HE := Lib.hid (encE_may hmy)
      clear hmy
      have c0 := hB2.cell 0
      have c1 := hB2.cell 1
      have c2 := hB2.cell 2
      have c3 := hB2.cell 3
      have c4 := hB2.cell 4
      have c5 := hB2.cell 5
      have c6 := hB2.cell 6
      have c7 := hB2.cell 7
      have c8 := hB2.cell 8
      have c9 := hB2.cell 9
      simp only [List.getElem?_toArray, List.getElem?_cons_succ, List.getElem?_cons_zero] at c0 c1 c2 c3 c4 c5 c6 c7 c8 c9
      have hcvk := truth_conv 2 (by omega)
      go_upto_region 5 with fail
      have hrw := u64s_made w2 [2, a, b, sg, now] 28 (by simp) (by intro y hy; simp at hy; rcases hy with rfl | rfl | rfl | rfl | rfl <;> omega)
      have hAl := (Only.refl NoBlock w2).alloc (Obj.cells (List.map (fun (x : Nat) => Value.int .u64 (x : Int)) [2, a, b, sg, now]).toArray 28)
      have HN := Lib.hid (rfl : textOf (numsB [2, a, b, sg, now]) = textOf (numsB [2, a, b, sg, now]))
      have hl5 := numsB_len (l := [2, a, b, sg, now]) (by intro y hy; simp at hy; rcases hy with rfl | rfl | rfl | rfl | rfl <;> omega)
      simp only [List.length_cons, List.length_nil] at hl5
      go_wp2_with fail
      refine (rnums16_as hrw rfl rfl).mono ?_
      rintro e w3 ⟨rfl, hO3⟩
      have hB3 := (hB2.keeps hAl (fun h => h)).keeps hO3 (fun h => h)
      have hOb := (hOa.trans hAl).trans hO3
      have hr3 := (hr2.keepsN hAl).keepsN hO3
      clear hB2 hOa hr2 hO3 hrw hAl
      clear c0 c1 c2 c3 c4 c5 c6 c7 c8 c9
      have c0 := hB3.cell 0
      have c1 := hB3.cell 1
      have c2 := hB3.cell 2
      have c3 := hB3.cell 3
      have c4 := hB3.cell 4
      have c5 := hB3.cell 5
      have c6 := hB3.cell 6
      have c7 := hB3.cell 7
      have c8 := hB3.cell 8
      have c9 := hB3.cell 9
      simp only [List.getElem?_toArray, List.getElem?_cons_succ, List.getElem?_cons_zero] at c0 c1 c2 c3 c4 c5 c6 c7 c8 c9
      go_wp2_with fail
      refine (rbytes13_at w3 ao cap l hr3 hsm hby).mono ?_
      rintro e w4 ⟨rfl, hO4⟩
      have hB4 := hB3.keeps hO4 (fun h => h)
      have hOc := hOb.trans hO4
      clear hB3 hOb hr3 hO4
      clear c0 c1 c2 c3 c4 c5 c6 c7 c8 c9
      have c0 := hB4.cell 0
      have c1 := hB4.cell 1
      have c2 := hB4.cell 2
      have c3 := hB4.cell 3
      have c4 := hB4.cell 4
      have c5 := hB4.cell 5
      have c6 := hB4.cell 6
      have c7 := hB4.cell 7
      have c8 := hB4.cell 8
      have c9 := hB4.cell 9
      simp only [List.getElem?_toArray, List.getElem?_cons_succ, List.getElem?_cons_zero] at c0 c1 c2 c3 c4 c5 c6 c7 c8 c9
      have hel := encSs_len hsm
      have z1 : (textOf (numsB [2, a, b, sg, now])).size ≤ 100 := by rw [textOf_size]; omega
      have z2 : (textOf (Pk.encSs l)).size ≤ 4000 := by rw [textOf_size]; exact hel
      have hcat : (9223372036854775807 < (textOf (numsB [2, a, b, sg, now])).size + (textOf (Pk.encSs l)).size) = False := by simp; omega
      go_wp2_with fail
      go_ret2
      exact ⟨by rw [HE.out, ← HEQ.out]; rfl, hOc⟩
set_option maxHeartbeats 4000000 in
theorem renc4_at (w : World) (a b sg : Nat) (l : List Pk.Stp) (ao : Option Addr) (cap : Nat) (st : Nat) (bk : Bool) (tr : Nat) (ok : Bool) (now : Nat)  (hwf : Pk.Cmd.Wf ⟨4, a, b, sg, l, st, bk, tr, ok, now⟩) (hst : st < 1000) (htr : tr < 1000) (hsm : Smalls l) (_hby : Bytesy l) (hrow : RowIn stpK 38 w ao l) :
    Calls Try.prog 9 #[.agg #[.int .i64 4, .int .u64 a, .int .u64 b, .int .u64 sg, .slice ao l.length cap, .int .i64 (st : Int), .bool bk, .int .i64 (tr : Int), .bool ok, .int .u64 now]] w fun e w' => e = .returned (encE ⟨4, a, b, sg, l, st, bk, tr, ok, now⟩) ∧ Only NoBlock w w' := by
  have hw1 := hwf.session
  have hw2 := hwf.seq
  have hw3 := hwf.saga
  have hw4 := hwf.now
  simp only at hw1 hw2 hw3 hw4
  have hn64 := hsm.1
  go_enter Try.func9, Try.ntmps9
  go_upto_region 1 with fail
  have hB := Blk.made w #[.int .i64 4, .int .u64 a, .int .u64 b, .int .u64 sg, .slice ao l.length cap, .int .i64 (st : Int), .bool bk, .int .i64 (tr : Int), .bool ok, .int .u64 now] 31
  have hO := (Only.refl NoBlock w).alloc (Obj.cells #[.int .i64 4, .int .u64 a, .int .u64 b, .int .u64 sg, .slice ao l.length cap, .int .i64 (st : Int), .bool bk, .int .i64 (tr : Int), .bool ok, .int .u64 now] 31)
  have hr := hrow.keepsN hO
  generalize w.alloc (Obj.cells #[.int .i64 4, .int .u64 a, .int .u64 b, .int .u64 sg, .slice ao l.length cap, .int .i64 (st : Int), .bool bk, .int .i64 (tr : Int), .bool ok, .int .u64 now] 31) = w1 at hB hO hr ⊢
  generalize w.heap.size = X at hB ⊢
  clear hrow hwf
  have HEQ : RowKit.Hid (textOf (numsB [4, a, b, sg, now]) ++ textOf (numsB [st, Pk.truth bk, tr, Pk.truth ok]) = textOf (Pk.enc ⟨4, a, b, sg, l, st, bk, tr, ok, now⟩)) := Lib.hid (by rw [← textOf_append]; unfold Pk.enc numsB; simp)
  have ht1 := Pk.truth_le bk
  have ht2 := Pk.truth_le ok
  have c0 := hB.cell 0
  have c1 := hB.cell 1
  have c2 := hB.cell 2
  have c3 := hB.cell 3
  have c4 := hB.cell 4
  have c5 := hB.cell 5
  have c6 := hB.cell 6
  have c7 := hB.cell 7
  have c8 := hB.cell 8
  have c9 := hB.cell 9
  simp only [List.getElem?_toArray, List.getElem?_cons_succ, List.getElem?_cons_zero] at c0 c1 c2 c3 c4 c5 c6 c7 c8 c9
  go_upto_region 3 with fail
  clear c0 c1 c2 c3 c4 c5 c6 c7 c8 c9
  have c0 := hB.cell 0
  have c1 := hB.cell 1
  have c2 := hB.cell 2
  have c3 := hB.cell 3
  have c4 := hB.cell 4
  have c5 := hB.cell 5
  have c6 := hB.cell 6
  have c7 := hB.cell 7
  have c8 := hB.cell 8
  have c9 := hB.cell 9
  simp only [List.getElem?_toArray, List.getElem?_cons_succ, List.getElem?_cons_zero] at c0 c1 c2 c3 c4 c5 c6 c7 c8 c9
  go_wp2_with fail
  refine (rmaycmd_at w1 ⟨4, a, b, sg, l, st, bk, tr, ok, now⟩ ao cap hsm hr).mono ?_
  rintro e w2 ⟨rfl, hO2⟩
  have hB2 := hB.keeps hO2 (fun h => h)
  have hOa := hO.trans hO2
  have hr2 := hr.keepsN hO2
  clear hB hO hr hO2
  clear c0 c1 c2 c3 c4 c5 c6 c7 c8 c9
  cases hmy : Pk.may ⟨4, a, b, sg, l, st, bk, tr, ok, now⟩ with
  | false =>
    have HE := Lib.hid (encE_no hmy (fun h => by simp at h <;> omega))
    clear hmy
    go_wp2_with fail
    go_ret2
    exact ⟨by rw [HE.out]; rfl, hOa⟩
  | true =>
    have HE := Lib.hid (encE_may hmy)
    clear hmy
    have c0 := hB2.cell 0
    have c1 := hB2.cell 1
    have c2 := hB2.cell 2
    have c3 := hB2.cell 3
    have c4 := hB2.cell 4
    have c5 := hB2.cell 5
    have c6 := hB2.cell 6
    have c7 := hB2.cell 7
    have c8 := hB2.cell 8
    have c9 := hB2.cell 9
    simp only [List.getElem?_toArray, List.getElem?_cons_succ, List.getElem?_cons_zero] at c0 c1 c2 c3 c4 c5 c6 c7 c8 c9
    have hcvk := truth_conv 4 (by omega)
    go_upto_region 5 with fail
    have hrw := u64s_made w2 [4, a, b, sg, now] 28 (by simp) (by intro y hy; simp at hy; rcases hy with rfl | rfl | rfl | rfl | rfl <;> omega)
    have hAl := (Only.refl NoBlock w2).alloc (Obj.cells (List.map (fun (x : Nat) => Value.int .u64 (x : Int)) [4, a, b, sg, now]).toArray 28)
    have HN := Lib.hid (rfl : textOf (numsB [4, a, b, sg, now]) = textOf (numsB [4, a, b, sg, now]))
    have hl5 := numsB_len (l := [4, a, b, sg, now]) (by intro y hy; simp at hy; rcases hy with rfl | rfl | rfl | rfl | rfl <;> omega)
    simp only [List.length_cons, List.length_nil] at hl5
    go_wp2_with fail
    refine (rnums16_as hrw rfl rfl).mono ?_
    rintro e w3 ⟨rfl, hO3⟩
    have hB3 := (hB2.keeps hAl (fun h => h)).keeps hO3 (fun h => h)
    have hOb := (hOa.trans hAl).trans hO3
    have hr3 := (hr2.keepsN hAl).keepsN hO3
    clear hB2 hOa hr2 hO3 hrw hAl
    clear c0 c1 c2 c3 c4 c5 c6 c7 c8 c9
    have c0 := hB3.cell 0
    have c1 := hB3.cell 1
    have c2 := hB3.cell 2
    have c3 := hB3.cell 3
    have c4 := hB3.cell 4
    have c5 := hB3.cell 5
    have c6 := hB3.cell 6
    have c7 := hB3.cell 7
    have c8 := hB3.cell 8
    have c9 := hB3.cell 9
    simp only [List.getElem?_toArray, List.getElem?_cons_succ, List.getElem?_cons_zero] at c0 c1 c2 c3 c4 c5 c6 c7 c8 c9
    have cv1 := truth_conv st hst
    have cv2 := truth_conv tr htr
    have hl4 := numsB_len (l := [st, Pk.truth bk, tr, Pk.truth ok]) (by intro y hy; simp at hy; rcases hy with rfl | rfl | rfl | rfl <;> omega)
    simp only [List.length_cons, List.length_nil] at hl4
    have z1 : (textOf (numsB [4, a, b, sg, now])).size ≤ 100 := by rw [textOf_size]; omega
    have z2 : (textOf (numsB [st, Pk.truth bk, tr, Pk.truth ok])).size ≤ 100 := by rw [textOf_size]; omega
    have hcat : (9223372036854775807 < (textOf (numsB [4, a, b, sg, now])).size + (textOf (numsB [st, Pk.truth bk, tr, Pk.truth ok])).size) = False := by simp; omega
    have HWF : RowKit.Hid (∀ y ∈ [st, Pk.truth bk, tr, Pk.truth ok], y < 18446744073709551616) := Lib.hid (by intro y hy; simp at hy; rcases hy with rfl | rfl | rfl | rfl <;> omega)
    go_upto_region 9 with fail
    have hD3 : Only NoBlock w3 w3.drew := (Only.refl NoBlock w3).drew
    have hrw := u64s_made w3.drew [st, Pk.truth bk, tr, Pk.truth ok] 28 (by simp) HWF.out
    generalize hs5 : textOf (numsB [4, a, b, sg, now]) = s5 at hcat z1 HEQ ⊢
    clear hs5
    generalize hs4 : textOf (numsB [st, Pk.truth bk, tr, Pk.truth ok]) = s4 at hcat z2 HEQ
    have HS4 := Lib.hid hs4
    clear hs4
    go_region_held3 (fun w' => w'.cell? ⟨X, 5, none⟩ = some (.int .i64 (st : Int)) ∧ w'.cell? ⟨X, 6, none⟩ = some (.bool bk) ∧ w'.cell? ⟨X, 7, none⟩ = some (.int .i64 (tr : Int)) ∧ w'.cell? ⟨X, 8, none⟩ = some (.bool ok))
      (first | with_reducible exact ⟨c5, c6, c7, c8⟩ | exact ⟨by assumption, by assumption, by assumption, by assumption⟩ | go_keep)
      (first | (go_at_call 25; refine (truth_at _ _).mono ?_; rintro e w5 ⟨rfl, rfl⟩) | (go_at_call 23; refine (rnums16_as hrw rfl HS4.out).mono ?_; rintro e w6 ⟨rfl, hO6⟩; have k5 := keepN hO6 (keepN ((Only.refl NoBlock w3.drew).alloc _) c5); have k6 := keepN hO6 (keepN ((Only.refl NoBlock w3.drew).alloc _) c6); have k7 := keepN hO6 (keepN ((Only.refl NoBlock w3.drew).alloc _) c7); have k8 := keepN hO6 (keepN ((Only.refl NoBlock w3.drew).alloc _) c8)))
    all_goals
      go_wp2_with fail
      go_ret2
      exact ⟨by rw [HE.out, ← HEQ.out]; rfl, ((hOb.trans hD3).alloc _).trans hO6⟩
theorem renc_at (w : World) (c : Pk.Cmd) (ao : Option Addr) (cap : Nat) (hk : c.kind ≤ 5) (hwf : c.Wf) (hst : c.step < 1000) (htr : c.try_ < 1000) (hsm : Smalls c.steps) (hby : Bytesy c.steps) (hrow : RowIn stpK 38 w ao c.steps) :
    Calls Try.prog 9 #[cmdV c ao cap] w fun e w' => e = .returned (encE c) ∧ Only NoBlock w w' := by
  obtain ⟨k, a, b, s, l, st, bk, tr, ok, now⟩ := c
  simp only at hk hst htr hsm hby hrow
  by_cases h2 : k = 2
  · subst h2; exact renc2_at w a b s l ao cap st bk tr ok now hwf hst htr hsm hby hrow
  by_cases h4 : k = 4
  · subst h4; exact renc4_at w a b s l ao cap st bk tr ok now hwf hst htr hsm hby hrow
  exact rencE_at w a b s l ao cap st bk tr ok now k hk h2 h4 hwf hst htr hsm hby hrow
end Go.Proofs.Ytogeeeigfhmpmaa

/- plan.Write, saga.Write. -/
namespace Go.Proofs.Ytogeeeigfhmpmaa
open Go.RowKit
set_option maxRecDepth 100000

set_option maxHeartbeats 4000000 in
theorem planwrite_at (S : Nat → Prop) (w : World) (base p : Nat) (bs : List Int) (hW : WriterAt w base p bs) (hS : WrS S w base p) (ao : Option Addr) (cap : Nat) (l : List Pk.Stp) (h : RowIn stpK 38 w ao l) (hSr : ∀ a, ao = some a → ¬ S a.block) (hs : Smalls l) (hby : Bytesy l) (hbl : bs.length ≤ 1000000) :
    Calls Try.prog 72 #[.pointer (some ⟨p, 0, none⟩), .slice ao l.length cap] w fun e w' => e = .returned (.tuple #[]) ∧ WriterAt w' base p (bs ++ Pk.encSs l) ∧ Only S w w' := by
  have hn64 := hs.1
  have hnl := num_len (x := l.length) (by omega)
  have hconv : IntKind.u64.wrap (l.length : Int) = (l.length : Int) := by rw [IntKind.wrap_u64]; omega
  go_enter Try.func72, Try.ntmps72
  go_wp2_with fail
  refine (wnumS_at S w base p bs hW l.length (by omega) (by omega) hS.p hS.row).mono ?_
  rintro e w1 ⟨rfl, hW1, hO1⟩
  go_wp2_with fail
  go_loopw [13] (fun v13 wr => ∃ (k : Nat) (cs : List Int), k ≤ l.length ∧ v13 = .int .i64 k ∧ cs.length ≤ bs.length + 9 + 60 * k ∧ RowKit.Hid (cs = bs ++ Pk.num l.length ++ numSs (l.take k)) ∧ WriterAt wr base p cs ∧ Only S w wr) (fun v13 _ => l.length - (intOf v13).toNat)
  case atStart => exact ⟨0, bs ++ Pk.num l.length, by omega, rfl, by rw [List.length_append]; omega, Lib.hid (by unfold numSs; simp), hW1, hO1⟩
  case round =>
    obtain ⟨k, cs, hk, rfl, hcl, HB, hWr, hO⟩ := hrel
    by_cases hlt : k < l.length
    · have hin := h.keeps hO hSr
      obtain ⟨b, off, rfl⟩ := hin.shape (by omega)
      have e0 := hin.at hlt (j := 0) (by decide)
      have e1 := hin.at hlt (j := 1) (by decide)
      have e2 := hin.at hlt (j := 2) (by decide)
      obtain ⟨⟨pt, nm, bg⟩, ht⟩ : ∃ t, l.getD k stpK.zero = t := ⟨_, rfl⟩
      have hmem : (⟨pt, nm, bg⟩ : Pk.Stp) ∈ l := by
        rw [← ht, List.getD_eq_getElem?_getD, List.getElem?_eq_getElem hlt]
        exact List.getElem_mem hlt
      have hsm := hs.2 _ hmem
      have HNB := Lib.hid (hby _ hmem)
      have HEN := Lib.hid (encS_len hsm)
      obtain ⟨s1, s2, s3⟩ := hsm
      have HA := Lib.hid (numSs_snoc hlt ht)
      rw [ht] at e0 e1 e2
      simp only [stpK, List.getElem?_cons_succ, List.getElem?_cons_zero, Nat.add_zero] at e0 e1 e2
      simp only at s1 s2 s3
      clear ht hin hmem
      have cv1 : IntKind.u64.wrap (pt : Int) = (pt : Int) := by rw [IntKind.wrap_u64]; omega
      have cv3 : IntKind.u64.wrap (bg : Int) = (bg : Int) := by rw [IntKind.wrap_u64]; omega
      have n1 := num_len (x := pt) (by omega)
      have n2 := text_len s2
      have ht16 : (textOf nm).size ≤ 1000000000000 := by rw [textOf_size]; omega
      go_upto_region 4 with fail
      have hA := (Only.refl NoBlock wr).alloc (Obj.cells #[.int .i64 (pt : Int), .string (textOf nm), .int .i64 (bg : Int)] 38)
      have hX : BoxW S w (wr.alloc (Obj.cells #[.int .i64 (pt : Int), .string (textOf nm), .int .i64 (bg : Int)] 38)) base p wr.heap.size #[.int .i64 (pt : Int), .string (textOf nm), .int .i64 (bg : Int)] 38 cs := ⟨hWr.keepsN hA, Blk.made wr _ _, hO.alloc _⟩
      generalize wr.alloc (Obj.cells #[.int .i64 (pt : Int), .string (textOf nm), .int .i64 (bg : Int)] 38) = wB at hX ⊢
      generalize wr.heap.size = B at hX ⊢
      have hX0 := hX.drew
      have a0 := hX.box.cell 0
      have a1 := hX.box.cell 1
      have a2 := hX.box.cell 2
      simp only [List.getElem?_toArray, List.getElem?_cons_succ, List.getElem?_cons_zero] at a0 a1 a2
      clear hA hWr hO e0 e1 e2 hX
      go_region_held3 (fun w' => w'.cell? ⟨B, 0, none⟩ = some (.int .i64 (pt : Int)) ∧ w'.cell? ⟨B, 1, none⟩ = some (.string (textOf nm)) ∧ w'.cell? ⟨B, 2, none⟩ = some (.int .i64 (bg : Int)))
        (first | with_reducible exact ⟨a0, a1, a2⟩ | exact ⟨by assumption, by assumption, by assumption⟩ | go_keep)
        (first
          | (go_at_call 42; ((with_reducible refine (wnumB_at hX2 hS (by decide) (by decide) bg (by omega) (by simp only [List.length_append]; rw [nums_textOf HNB.out]; omega)).mono ?_)); rintro e w4 ⟨rfl, hX3⟩; have q0 := hX3.box.cell 0; have q1 := hX3.box.cell 1; have q2 := hX3.box.cell 2; simp only [List.getElem?_toArray, List.getElem?_cons_succ, List.getElem?_cons_zero] at q0 q1 q2)
          | (go_at_call 99; ((with_reducible refine (wtextB_at hX1 hS (by decide) (by decide) (textOf nm) ht16 (by simp only [List.length_append]; omega)).mono ?_)); rintro e w3 ⟨rfl, hX2⟩; have q0 := hX2.box.cell 0; have q1 := hX2.box.cell 1; have q2 := hX2.box.cell 2; simp only [List.getElem?_toArray, List.getElem?_cons_succ, List.getElem?_cons_zero] at q0 q1 q2)
          | (go_at_call 42; ((with_reducible refine (wnumB_at hX0 hS (by decide) (by decide) pt (by omega) (by omega)).mono ?_)); rintro e w2 ⟨rfl, hX1⟩; have q0 := hX1.box.cell 0; have q1 := hX1.box.cell 1; have q2 := hX1.box.cell 2; simp only [List.getElem?_toArray, List.getElem?_cons_succ, List.getElem?_cons_zero] at q0 q1 q2))
      all_goals
        have hE : cs ++ Pk.num pt ++ Pk.text (nums (textOf nm)) ++ Pk.num bg = cs ++ Pk.encS ⟨pt, nm, bg⟩ := by rw [nums_textOf HNB.out]; unfold Pk.encS; simp [List.append_assoc]
        have hW4 := hX3.wr
        have hO4 := hX3.only
        rw [hE] at hW4
        clear hE hX3
        go_wp2_with fail
        go_roundw
        case rel => exact ⟨k + 1, cs ++ Pk.encS ⟨pt, nm, bg⟩, by omega, by go_num, by rw [List.length_append]; have := HEN.out; omega, Lib.hid (by rw [HA.out, HB.out, List.append_assoc]), hW4, hO4⟩
        case measure => simp [intOf]; omega
    · obtain rfl : k = l.length := by omega
      have HE : RowKit.Hid (cs = bs ++ Pk.encSs l) := Lib.hid (by rw [HB.out, List.take_length, List.append_assoc]; rfl)
      clear HB
      go_wp2_with fail
      go_end0
      exact ⟨rfl, by rw [← HE.out]; exact hWr, hO⟩
set_option maxHeartbeats 4000000 in
theorem sagawrite_at (S : Nat → Prop) (w : World) (base p : Nat) (bs : List Int) (hW : WriterAt w base p bs) (hS : WrS S w base p) (s : Mc.Sg) (ao : Option Addr) (cap : Nat) (h : RowIn stpK 38 w ao s.steps) (hSr : ∀ a, ao = some a → ¬ S a.block) (hby : Bytesy s.steps) (hso : Mc.sound s = true) (hbl : bs.length ≤ 1000000) :
    Calls Try.prog 43 #[.pointer (some ⟨p, 0, none⟩), sgV s ao cap] w fun e w' => e = .returned (.tuple #[]) ∧ WriterAt w' base p (bs ++ Mc.encSg s) ∧ Only S w w' := by
  obtain ⟨hok, h1, h2, h3, h4, h5, h6⟩ := Mc.sound_up hso
  have hsm := okSs_small hok
  obtain ⟨l, st, cu, fa⟩ := s
  simp only at h1 h2 h3 h4 h5 h6 hsm h hby
  obtain ⟨a, rfl⟩ : ∃ a : Nat, st = a := ⟨st.toNat, by omega⟩
  obtain ⟨c, rfl⟩ : ∃ c : Nat, cu = c := ⟨cu.toNat, by omega⟩
  obtain ⟨f, rfl⟩ : ∃ f : Nat, fa = f := ⟨fa.toNat, by omega⟩
  have HE : RowKit.Hid (Mc.encSg ⟨l, (a : Int), (c : Int), (f : Int)⟩ = Pk.encSs l ++ Pk.num a ++ Pk.num c ++ Pk.num f) := Lib.hid (by unfold Mc.encSg; simp)
  generalize Mc.encSg ⟨l, (a : Int), (c : Int), (f : Int)⟩ = eg at HE ⊢
  have hel := encSs_len hsm
  have na := num_len (x := a) (by omega)
  have nc := num_len (x := c) (by omega)
  show Calls Try.prog 43 #[.pointer (some ⟨p, 0, none⟩), .agg #[.slice ao l.length cap, .int .i64 (a : Int), .int .i64 (c : Int), .int .i64 (f : Int)]] w _
  clear hso hok
  go_enter Try.func43, Try.ntmps43
  go_upto_region 1 with fail
  have hA := (Only.refl NoBlock w).alloc (Obj.cells #[.slice ao l.length cap, .int .i64 (a : Int), .int .i64 (c : Int), .int .i64 (f : Int)] 63)
  have hB := Blk.made w #[.slice ao l.length cap, .int .i64 (a : Int), .int .i64 (c : Int), .int .i64 (f : Int)] 63
  have hW1 := hW.keepsN hA
  have hr1 := h.keepsN hA
  have hO1 : Only S w (w.alloc (Obj.cells #[.slice ao l.length cap, .int .i64 (a : Int), .int .i64 (c : Int), .int .i64 (f : Int)] 63)) := (Only.refl S w).alloc _
  have hpB : ¬ p = w.heap.size := by obtain ⟨_, v, hb, _⟩ := hW; have := hb.lt; omega
  have hrl : ∀ ad, ao = some ad → ad.block < w.heap.size := fun ad e => (h.typed ad e).lt
  generalize w.alloc (Obj.cells #[.slice ao l.length cap, .int .i64 (a : Int), .int .i64 (c : Int), .int .i64 (f : Int)] 63) = w1 at hB hW1 hr1 hO1 ⊢
  generalize hBe : w.heap.size = B at hB hpB ⊢
  have hS1 : WrS (fun k => (k < w.heap.size → S k) ∧ k ≠ B) w1 base p := ⟨⟨fun _ => hS.p, hpB⟩, fun k hk ht => ⟨fun hlt => hS.later hO1 k hk ht hlt, fun e => by subst e; exact ht.ne_blk hB (by decide) rfl⟩⟩
  have hSr1 : ∀ ad, ao = some ad → ¬ ((ad.block < w.heap.size → S ad.block) ∧ ad.block ≠ B) := fun ad e hk => hSr ad e (hk.1 (hrl ad e))
  have c0 := hB.cell 0
  simp only [List.getElem?_toArray, List.getElem?_cons_zero] at c0
  clear hA hBe
  go_wp2_with fail
  refine (planwrite_at _ w1 base p bs hW1 hS1 ao cap l hr1 hSr1 hsm hby hbl).mono ?_
  rintro e w2 ⟨rfl, hW2, hO2⟩
  have hX : BoxW S w w2 base p B #[.slice ao l.length cap, .int .i64 (a : Int), .int .i64 (c : Int), .int .i64 (f : Int)] 63 (bs ++ Pk.encSs l) := ⟨hW2, hB.keeps hO2 (fun hk => hk.2 rfl), hO1.andThen hO2 (fun k hi hk => hk.1 hi)⟩
  have hX0 := hX.drew
  have a1 := hX.box.cell 1
  have a2 := hX.box.cell 2
  have a3 := hX.box.cell 3
  simp only [List.getElem?_toArray, List.getElem?_cons_succ, List.getElem?_cons_zero] at a1 a2 a3
  have cv1 := truth_conv a (by omega)
  have cv2 := truth_conv c (by omega)
  have cv3 := truth_conv f (by omega)
  clear hW1 hr1 hO1 hB hS1 hSr1 c0 hW2 hO2 hX hSr h hW hrl
  go_upto_region 2 with fail
  go_region_held3 (fun w' => w'.cell? ⟨B, 1, none⟩ = some (.int .i64 (a : Int)) ∧ w'.cell? ⟨B, 2, none⟩ = some (.int .i64 (c : Int)) ∧ w'.cell? ⟨B, 3, none⟩ = some (.int .i64 (f : Int)))
    (first | with_reducible exact ⟨a1, a2, a3⟩ | exact ⟨by assumption, by assumption, by assumption⟩ | go_keep)
    (first
      | (go_at_call 42; ((with_reducible refine (wnumB_at hX2 hS (by decide) (by decide) f (by omega) (by simp only [List.length_append]; omega)).mono ?_)); rintro e w5 ⟨rfl, hX3⟩; have q1 := hX3.box.cell 1; have q2 := hX3.box.cell 2; have q3 := hX3.box.cell 3; simp only [List.getElem?_toArray, List.getElem?_cons_succ, List.getElem?_cons_zero] at q1 q2 q3)
      | (go_at_call 42; ((with_reducible refine (wnumB_at hX1 hS (by decide) (by decide) c (by omega) (by simp only [List.length_append]; omega)).mono ?_)); rintro e w4 ⟨rfl, hX2⟩; have q1 := hX2.box.cell 1; have q2 := hX2.box.cell 2; have q3 := hX2.box.cell 3; simp only [List.getElem?_toArray, List.getElem?_cons_succ, List.getElem?_cons_zero] at q1 q2 q3)
      | (go_at_call 42; ((with_reducible refine (wnumB_at hX0 hS (by decide) (by decide) a (by omega) (by simp only [List.length_append]; omega)).mono ?_)); rintro e w3 ⟨rfl, hX1⟩; have q1 := hX1.box.cell 1; have q2 := hX1.box.cell 2; have q3 := hX1.box.cell 3; simp only [List.getElem?_toArray, List.getElem?_cons_succ, List.getElem?_cons_zero] at q1 q2 q3))
  all_goals
    have hW5 := hX3.wr
    have hO5 := hX3.only
    go_wp2_with fail
    go_end0
    exact ⟨rfl, by rw [HE.out]; simpa only [List.append_assoc] using hW5, hO5⟩
end Go.Proofs.Ytogeeeigfhmpmaa

/- session.Table's Write. -/
namespace Go.Proofs.Ytogeeeigfhmpmaa
open Go.RowKit
set_option maxRecDepth 100000

def numSes (l : List Mc.Ses) : List Int := l.flatMap Mc.encSes
theorem numSes_snoc {l : List Mc.Ses} {k : Nat} (h : k < l.length) {x : Mc.Ses} (hx : l[k] = x) : numSes (l.take (k + 1)) = numSes (l.take k) ++ Mc.encSes x := by
  rw [List.take_succ_eq_append_getElem h, hx]
  unfold numSes
  simp
set_option maxHeartbeats 8000000 in
theorem tabwrite_at (S : Nat → Prop) (w : World) (base p : Nat) (bs : List Int) (hW : WriterAt w base p bs) (hS : WrS S w base p) (tb : Nat) (v : Value) (t : Mc.Tab) (hT : TabAt w tb v t) (hk : t.Ok) (hn1 : ¬ S tb) (hn2 : ∀ k, v.ownBlock = some k → ¬ S k) (hbl : bs.length ≤ 1000) :
    Calls Try.prog 41 #[.pointer (some ⟨tb, 0, none⟩), .pointer (some ⟨p, 0, none⟩)] w fun e w' => e = .returned (.tuple #[]) ∧ WriterAt w' base p (bs ++ Mc.encTab t) ∧ Only S w w' := by
  have hlen := hk.len
  have hnow := hk.now
  have hnext := hk.next
  have HR := Lib.hid (fun x (hx : x ∈ t.rows) => (And.intro (hk.rows x hx) (And.intro (hk.below x hx) (hk.used x hx))))
  have HE := Lib.hid (show Mc.encTab t = Pk.num t.now ++ Pk.num t.next ++ Pk.num t.rows.length ++ numSes t.rows from rfl)
  obtain ⟨now, next, l⟩ := t
  obtain ⟨hB, hrow⟩ := hT
  simp only at hB hrow hlen hnow hnext
  have hrk : ∀ w' : World, Only S w w' → RowAt sesK 58 w' 0 v l := fun _ ho => hrow.keeps ho hn2
  have HRK := Lib.hid hrk
  have hbk : ∀ w' : World, Only S w w' → Blk w' tb #[.int .u64 now, .int .u64 next, v] 112 := fun _ ho => hB.keeps ho hn1
  have HBK := Lib.hid hbk
  clear hrk hbk hk
  obtain ⟨ao, cap, rfl⟩ := hrow.shape
  have n1 := num_len hnow
  have n2 := num_len hnext
  have n3 := num_len (x := l.length) (by omega)
  have cv := truth_conv l.length (by omega)
  have hX0 : BoxW S w w.drew base p tb #[.int .u64 now, .int .u64 next, .slice ao l.length cap] 112 bs := ⟨hW.keepsN (Only.refl NoBlock w).drew, hB.drew, (Only.refl S w).drew⟩
  have a0 := hB.cell 0
  have a1 := hB.cell 1
  have a2 := hB.cell 2
  simp only [List.getElem?_toArray, List.getElem?_cons_succ, List.getElem?_cons_zero] at a0 a1 a2
  go_enter Try.func41, Try.ntmps41
  go_upto_region 1 with fail
  go_region_held3 (fun w' => w'.cell? ⟨tb, 0, none⟩ = some (.int .u64 now) ∧ w'.cell? ⟨tb, 1, none⟩ = some (.int .u64 next) ∧ w'.cell? ⟨tb, 2, none⟩ = some (.slice ao l.length cap))
    (first | with_reducible exact ⟨a0, a1, a2⟩ | exact ⟨by assumption, by assumption, by assumption⟩ | go_keep)
    (first
      | (go_at_call 42; ((with_reducible refine (wnumB_at hX2 hS (by decide) (by decide) (l.length) (by omega) (by (try simp only [List.length_append]); omega)).mono ?_)); rintro e w3 ⟨rfl, hX3⟩; have q0 := hX3.box.cell 0; have q1 := hX3.box.cell 1; have q2 := hX3.box.cell 2; simp only [List.getElem?_toArray, List.getElem?_cons_succ, List.getElem?_cons_zero] at q0 q1 q2)
      | (go_at_call 42; ((with_reducible refine (wnumB_at hX1 hS (by decide) (by decide) (next) hnext (by (try simp only [List.length_append]); omega)).mono ?_)); rintro e w2 ⟨rfl, hX2⟩; have q0 := hX2.box.cell 0; have q1 := hX2.box.cell 1; have q2 := hX2.box.cell 2; simp only [List.getElem?_toArray, List.getElem?_cons_succ, List.getElem?_cons_zero] at q0 q1 q2)
      | (go_at_call 42; ((with_reducible refine (wnumB_at hX0 hS (by decide) (by decide) (now) hnow (by (try simp only [List.length_append]); omega)).mono ?_)); rintro e w1 ⟨rfl, hX1⟩; have q0 := hX1.box.cell 0; have q1 := hX1.box.cell 1; have q2 := hX1.box.cell 2; simp only [List.getElem?_toArray, List.getElem?_cons_succ, List.getElem?_cons_zero] at q0 q1 q2))
  all_goals
    have hW3 := hX3.wr
    have hO3 := hX3.only
    have hB3 := HBK.out _ hO3
    have c2 := hB3.cell 2
    simp only [List.getElem?_toArray, List.getElem?_cons_succ, List.getElem?_cons_zero] at c2
    clear hX3 hX2 hX1 hX0 a0 a1 a2
    go_wp2_with fail
    go_loopw [31] (fun v31 wr => ∃ (k : Nat) (cs : List Int), k ≤ l.length ∧ v31 = .int .i64 k ∧ cs.length ≤ bs.length + 27 + 54 * k ∧ RowKit.Hid (cs = bs ++ Pk.num now ++ Pk.num next ++ Pk.num l.length ++ numSes (l.take k)) ∧ WriterAt wr base p cs ∧ Only S w wr) (fun v31 _ => l.length - (intOf v31).toNat)
    case atStart => exact ⟨0, bs ++ Pk.num now ++ Pk.num next ++ Pk.num l.length, by omega, rfl, by simp only [List.length_append]; omega, Lib.hid (by unfold numSes; simp), hW3, hO3⟩
    case round =>
      clear hW3 hO3 hB3 c2
      obtain ⟨k, cs, hk, rfl, hcl, HB, hWr, hO⟩ := hrel
      by_cases hlt : k < l.length
      · obtain ⟨ao2, cap2, e2, hin⟩ := (HRK.out _ hO).read
        cases e2
        obtain ⟨b, off, rfl⟩ := hin.shape (by omega)
        have hg : l.getD k sesK.zero = l[k] := by rw [List.getD_eq_getElem?_getD, List.getElem?_eq_getElem hlt]; rfl
        have e0 := hin.at hlt (j := 0) (by decide)
        have e1 := hin.at hlt (j := 1) (by decide)
        have e2 := hin.at hlt (j := 2) (by decide)
        have e3 := hin.at hlt (j := 3) (by decide)
        have e4 := hin.at hlt (j := 4) (by decide)
        have e5 := hin.at hlt (j := 5) (by decide)
        rw [hg] at e0 e1 e2 e3 e4 e5
        have hok := HR.out l[k] (List.getElem_mem hlt)
        obtain ⟨⟨xi, xu, xs, ⟨ye, yn, yx⟩⟩, hx⟩ : ∃ x, l[k] = x := ⟨_, rfl⟩
        rw [hx] at e0 e1 e2 e3 e4 e5 hok
        have HA := Lib.hid (numSes_snoc hlt hx)
        obtain ⟨⟨_, ok1, ⟨ok2, ok3, ok4, ok5⟩⟩, ok6, ok7⟩ := hok
        simp only at ok1 ok2 ok3 ok4 ok5 ok6 ok7
        clear hx hg hin
        simp only [sesK, List.getElem?_cons_succ, List.getElem?_cons_zero, Nat.add_zero] at e0 e1 e2 e3 e4 e5
        obtain ⟨ze, rfl⟩ : ∃ ze : Nat, ye = ze := ⟨ye.toNat, by omega⟩
        have bi : xi < 18446744073709551616 := by omega
        have bu : xu < 18446744073709551616 := by omega
        have m0 := num_len bi
        have m1 := num_len bu
        have m2 := num_len ok1
        have m3 := num_len (x := ze) (by omega)
        have m4 := num_len ok4
        have m5 := num_len ok5
        have cvz := truth_conv ze (by omega)
        have hEN : Mc.encSes ⟨xi, xu, xs, ⟨(ze : Int), yn, yx⟩⟩ = Pk.num xi ++ Pk.num xu ++ Pk.num xs ++ Pk.num ze ++ Pk.num yn ++ Pk.num yx := by unfold Mc.encSes; simp
        have HEN := Lib.hid hEN
        clear hEN
        go_upto_region 5 with fail
        have hA := (Only.refl NoBlock wr).alloc (Obj.cells #[.int .u64 xi, .int .u64 xu, .int .u64 xs, .int .i64 (ze : Int), .int .u64 yn, .int .u64 yx] 58)
        have hX : BoxW S w (wr.alloc (Obj.cells #[.int .u64 xi, .int .u64 xu, .int .u64 xs, .int .i64 (ze : Int), .int .u64 yn, .int .u64 yx] 58)) base p wr.heap.size #[.int .u64 xi, .int .u64 xu, .int .u64 xs, .int .i64 (ze : Int), .int .u64 yn, .int .u64 yx] 58 cs := ⟨hWr.keepsN hA, Blk.made wr _ _, hO.alloc _⟩
        generalize wr.alloc (Obj.cells #[.int .u64 xi, .int .u64 xu, .int .u64 xs, .int .i64 (ze : Int), .int .u64 yn, .int .u64 yx] 58) = wB at hX ⊢
        generalize wr.heap.size = B at hX ⊢
        have hX0 := hX.drew
        have a0 := hX.box.cell 0
        have a1 := hX.box.cell 1
        have a2 := hX.box.cell 2
        have a3 := hX.box.cell 3
        have a4 := hX.box.cell 4
        have a5 := hX.box.cell 5
        simp only [List.getElem?_toArray, List.getElem?_cons_succ, List.getElem?_cons_zero] at a0 a1 a2 a3 a4 a5
        clear hA hWr hO hX e0 e1 e2 e3 e4 e5
        go_region_held3 (fun w' => w'.cell? ⟨B, 0, none⟩ = some (.int .u64 xi) ∧ w'.cell? ⟨B, 1, none⟩ = some (.int .u64 xu) ∧ w'.cell? ⟨B, 2, none⟩ = some (.int .u64 xs) ∧ w'.cell? ⟨B, 3, none⟩ = some (.int .i64 (ze : Int)) ∧ w'.cell? ⟨B, 4, none⟩ = some (.int .u64 yn) ∧ w'.cell? ⟨B, 5, none⟩ = some (.int .u64 yx))
          (first | with_reducible exact ⟨a0, a1, a2, a3, a4, a5⟩ | exact ⟨by assumption, by assumption, by assumption, by assumption, by assumption, by assumption⟩ | go_keep)
          (first
            | (go_at_call 42; ((with_reducible refine (wnumB_at hX5 hS (by decide) (by decide) yx ok5 (by (try simp only [List.length_append]); omega)).mono ?_)); rintro e w10 ⟨rfl, hX6⟩; have q0 := hX6.box.cell 0; have q1 := hX6.box.cell 1; have q2 := hX6.box.cell 2; have q3 := hX6.box.cell 3; have q4 := hX6.box.cell 4; have q5 := hX6.box.cell 5; simp only [List.getElem?_toArray, List.getElem?_cons_succ, List.getElem?_cons_zero] at q0 q1 q2 q3 q4 q5)
            | (go_at_call 42; ((with_reducible refine (wnumB_at hX4 hS (by decide) (by decide) yn ok4 (by (try simp only [List.length_append]); omega)).mono ?_)); rintro e w9 ⟨rfl, hX5⟩; have q0 := hX5.box.cell 0; have q1 := hX5.box.cell 1; have q2 := hX5.box.cell 2; have q3 := hX5.box.cell 3; have q4 := hX5.box.cell 4; have q5 := hX5.box.cell 5; simp only [List.getElem?_toArray, List.getElem?_cons_succ, List.getElem?_cons_zero] at q0 q1 q2 q3 q4 q5)
            | (go_at_call 42; ((with_reducible refine (wnumB_at hX3 hS (by decide) (by decide) ze (by omega) (by (try simp only [List.length_append]); omega)).mono ?_)); rintro e w8 ⟨rfl, hX4⟩; have q0 := hX4.box.cell 0; have q1 := hX4.box.cell 1; have q2 := hX4.box.cell 2; have q3 := hX4.box.cell 3; have q4 := hX4.box.cell 4; have q5 := hX4.box.cell 5; simp only [List.getElem?_toArray, List.getElem?_cons_succ, List.getElem?_cons_zero] at q0 q1 q2 q3 q4 q5)
            | (go_at_call 42; ((with_reducible refine (wnumB_at hX2 hS (by decide) (by decide) xs ok1 (by (try simp only [List.length_append]); omega)).mono ?_)); rintro e w7 ⟨rfl, hX3⟩; have q0 := hX3.box.cell 0; have q1 := hX3.box.cell 1; have q2 := hX3.box.cell 2; have q3 := hX3.box.cell 3; have q4 := hX3.box.cell 4; have q5 := hX3.box.cell 5; simp only [List.getElem?_toArray, List.getElem?_cons_succ, List.getElem?_cons_zero] at q0 q1 q2 q3 q4 q5)
            | (go_at_call 42; ((with_reducible refine (wnumB_at hX1 hS (by decide) (by decide) xu bu (by (try simp only [List.length_append]); omega)).mono ?_)); rintro e w6 ⟨rfl, hX2⟩; have q0 := hX2.box.cell 0; have q1 := hX2.box.cell 1; have q2 := hX2.box.cell 2; have q3 := hX2.box.cell 3; have q4 := hX2.box.cell 4; have q5 := hX2.box.cell 5; simp only [List.getElem?_toArray, List.getElem?_cons_succ, List.getElem?_cons_zero] at q0 q1 q2 q3 q4 q5)
            | (go_at_call 42; ((with_reducible refine (wnumB_at hX0 hS (by decide) (by decide) xi bi (by (try simp only [List.length_append]); omega)).mono ?_)); rintro e w5 ⟨rfl, hX1⟩; have q0 := hX1.box.cell 0; have q1 := hX1.box.cell 1; have q2 := hX1.box.cell 2; have q3 := hX1.box.cell 3; have q4 := hX1.box.cell 4; have q5 := hX1.box.cell 5; simp only [List.getElem?_toArray, List.getElem?_cons_succ, List.getElem?_cons_zero] at q0 q1 q2 q3 q4 q5))
        all_goals
          have hW9 := hX6.wr
          have hO9 := hX6.only
          have hE9 : cs ++ Pk.num xi ++ Pk.num xu ++ Pk.num xs ++ Pk.num ze ++ Pk.num yn ++ Pk.num yx = cs ++ Mc.encSes ⟨xi, xu, xs, ⟨(ze : Int), yn, yx⟩⟩ := by rw [HEN.out]; simp only [List.append_assoc]
          rw [hE9] at hW9
          have hl9 : (cs ++ Mc.encSes ⟨xi, xu, xs, ⟨(ze : Int), yn, yx⟩⟩).length ≤ bs.length + 27 + 54 * (k + 1) := by rw [HEN.out]; simp only [List.length_append]; omega
          clear hE9 hX6 hX5 hX4 hX3 hX2 hX1 hX0 a0 a1 a2 a3 a4 a5
          go_wp2_with fail
          go_roundw
          case rel => exact ⟨k + 1, _, by omega, by go_num, hl9, Lib.hid (by rw [HA.out, HB.out, List.append_assoc]), hW9, hO9⟩
          case measure => simp [intOf]; omega
      · obtain rfl : k = l.length := by omega
        have HF : RowKit.Hid (cs = bs ++ Mc.encTab ⟨now, next, l⟩) := Lib.hid (by rw [HE.out, HB.out, List.take_length]; simp only [List.append_assoc])
        clear HB
        go_wp2_with fail
        go_end0
        exact ⟨rfl, by rw [← HF.out]; exact hWr, hO⟩
end Go.Proofs.Ytogeeeigfhmpmaa
