/- plan.Read: a definition's steps are read. -/
import Derived.Test.YtogeeeigfhmpmaaStpK
import Derived.Test.YtogeeeigfhmpmaaReadK
namespace Go.Proofs.Ytogeeeigfhmpmaa
open Go.RowKit
set_option maxRecDepth 100000

/-- what is still to be read, behind these -/
def SnRest (n k : Nat) (l : List Pk.Stp) (q r : Pk.RD) : Prop := Pk.rdSn n r = (l ++ (Pk.rdSn k q).1, (Pk.rdSn k q).2)
theorem SnRest.step {n k : Nat} {l : List Pk.Stp} {q r : Pk.RD} (h : SnRest n (k + 1) l q r) : SnRest n k (l ++ [(Pk.rdS q).1]) (Pk.rdS q).2 r := by
  unfold SnRest at h ⊢
  rw [h]
  have e : Pk.rdSn (k + 1) q = ((Pk.rdS q).1 :: (Pk.rdSn k (Pk.rdS q).2).1, (Pk.rdSn k (Pk.rdS q).2).2) := rfl
  rw [e]
  simp
set_option maxHeartbeats 1600000 in
theorem planread_at (w : World) (p : Nat) (r : Pk.RD) (h : ReaderAt w p r) :
    Calls Try.prog 56 #[.pointer (some ⟨p, 0, none⟩)] w fun e w' => ∃ ao cap, e = .returned (.slice ao (Pk.rdSs r).1.length cap) ∧ RowIn stpK 38 w' ao (Pk.rdSs r).1 ∧ ReaderAt w' p (Pk.rdSs r).2 ∧ Only (fun k => k = p) w w' := by
  go_enter Try.func56, Try.ntmps56
  go_wp2_with fail
  refine (rup_at w p r h 64 (by omega)).mono ?_
  rintro e w1 ⟨rfl, hR1, hO1⟩
  have HU := Lib.hid (show r.up 64 = ((r.up 64).1, (r.up 64).2) from rfl)
  have hn64 : (r.up 64).1 ≤ 64 := Pk.up_fst
  have hS : Pk.rdSs r = (if (Pk.rdSn (r.up 64).1 (r.up 64).2).2.bad = true then [] else (Pk.rdSn (r.up 64).1 (r.up 64).2).1, (Pk.rdSn (r.up 64).1 (r.up 64).2).2) := rfl
  have HS := Lib.hid hS
  clear hS HU
  generalize (r.up 64).1 = n at HS hn64 ⊢
  generalize (r.up 64).2 = r1 at HS hR1
  go_wp2_with fail
  go_loopw [3, 4] (fun v3 v4 wr => ∃ (k : Nat) (l : List Pk.Stp) (q : Pk.RD) (v : Value), k ≤ n ∧ l.length = n - k ∧ v4 = .int .i64 k ∧ v = v3 ∧ RowAt stpK 38 wr w.heap.size v l ∧ ReaderAt wr p q ∧ Only (fun k => k = p) w wr ∧ RowKit.Hid (SnRest n k l q r1)) (fun _ v4 _ => (intOf v4).toNat)
  case atStart => exact ⟨n, [], r1, _, by omega, by simp, rfl, rfl, RowAt.nil _ _ _ _, hR1, hO1, Lib.hid (by unfold SnRest; simp)⟩
  case round =>
    obtain ⟨k, l, q, v, hk, hl, rfl, rfl, hrow, hR, hO, HQ⟩ := hrel
    have HL := Lib.hid hl
    have hlen : l.length ≤ 64 := by omega
    clear hl
    by_cases hk0 : 0 < k
    · obtain ⟨k', rfl⟩ : ∃ k', k = k' + 1 := ⟨k - 1, by omega⟩
      have HQ2 := Lib.hid HQ.out.step
      have hp := hR.1.lt
      have hpl := h.1.lt
      have hvp : ∀ j, v.ownBlock = some j → j ≠ p := fun j hj e => (hrow.ofT hj).ne_blk hR.1 (by decide) e
      have hw := hO.size
      go_wp2_with fail
      refine (rup_at wr p q hR 3 (by omega)).mono ?_
      rintro e w2 ⟨rfl, hR2, hO2⟩
      have hrow2 := hrow.keeps hO2 (fun j hj e => hvp j hj e)
      have hO2' := hO.trans hO2
      have HS1 : RowKit.Hid ((Pk.rdS q) = (⟨(q.up 3).1, ((q.up 3).2.text 16).1, (((q.up 3).2.text 16).2.up 9).1⟩, (((q.up 3).2.text 16).2.up 9).2)) := Lib.hid rfl
      generalize (q.up 3).1 = pt at HS1 ⊢
      generalize (q.up 3).2 = q2 at hR2 HS1
      clear hR hO2 hrow hO
      go_upto_region 6 with fail
      have hB := Blk.made w2 #[.int .i64 (pt : Int), .string ⟨#[]⟩, .int .i64 0] 38
      have hA := (Only.refl NoBlock w2).alloc (Obj.cells #[.int .i64 (pt : Int), .string ⟨#[]⟩, .int .i64 0] 38)
      have hSp : w2.heap.size ≠ p := by have := hR2.1.lt; omega
      have hSv : ∀ j, v.ownBlock = some j → j ≠ w2.heap.size := fun j hj e => by have := (hrow2.ofT hj).lt; omega
      have hSw : w.heap.size ≤ w2.heap.size := hO2'.size
      have hR3 := hR2.keeps hA (fun h => h)
      have hrow3 := hrow2.keepsN hA
      have hO3 := hO2'.trans hA.of_no
      generalize w2.alloc (Obj.cells #[.int .i64 (pt : Int), .string ⟨#[]⟩, .int .i64 0] 38) = w3 at hB hR3 hrow3 hO3 ⊢
      generalize w2.heap.size = S at hB hSp hSv hSw ⊢
      clear hR2 hrow2 hO2' hA
      go_wp2_with fail
      refine (rtext_at w3 p q2 hR3 16 (by omega)).mono ?_
      rintro e w4 ⟨rfl, hR4, hO4⟩
      have hB4 := hB.keeps hO4 hSp
      have hrow4 := hrow3.keeps hO4 (fun j hj e => hvp j hj e)
      have hO4' := hO3.trans hO4
      have c1 := hB4.cell 1
      have f1 := hB4.free 1
      simp only [List.getElem?_toArray, List.getElem?_cons_succ, List.getElem?_cons_zero] at c1
      generalize (q2.text 16).1 = nm at HS1 ⊢
      generalize (q2.text 16).2 = q4 at hR4 HS1
      clear hR3 hO4 hrow3 hO3 hB
      go_upto_region 7 with fail
      have hO5 := (Only.refl (fun k => k = S) w4).setCell (p := ⟨S, 1, none⟩) (fun _ => rfl) (.string (textOf nm))
      have hB5 : Blk (w4.setCell ⟨S, 1, none⟩ (.string (textOf nm))) S #[.int .i64 (pt : Int), .string (textOf nm), .int .i64 0] 38 := hB4.setCell 1 (.string (textOf nm))
      have hR5 := hR4.keeps hO5 (fun e => hSp e.symm)
      have hrow5 := hrow4.keeps hO5 (fun j hj e => hSv j hj e)
      have hO5' := hO4'.setCell (p := ⟨S, 1, none⟩) (fun h => by have h' : S < w.heap.size := h; omega) (.string (textOf nm))
      generalize w4.setCell ⟨S, 1, none⟩ (.string (textOf nm)) = w5 at hB5 hR5 hrow5 hO5' ⊢
      clear hB4 hR4 hrow4 hO4' hO5 c1 f1
      go_wp2_with fail
      refine (rup_at w5 p q4 hR5 9 (by omega)).mono ?_
      rintro e w6 ⟨rfl, hR6, hO6⟩
      have hB6 := hB5.keeps hO6 hSp
      have hrow6 := hrow5.keeps hO6 (fun j hj e => hvp j hj e)
      have hO6' := hO5'.trans hO6
      have c2 := hB6.cell 2
      have f2 := hB6.free 2
      simp only [List.getElem?_toArray, List.getElem?_cons_succ, List.getElem?_cons_zero] at c2
      generalize (q4.up 9).1 = bg at HS1 ⊢
      generalize (q4.up 9).2 = q6 at hR6 HS1
      clear hR5 hO6 hrow5 hO5' hB5
      go_upto_region 8 with fail
      have hO7 := (Only.refl (fun k => k = S) w6).setCell (p := ⟨S, 2, none⟩) (fun _ => rfl) (.int .i64 (bg : Int))
      have hB7 : Blk (w6.setCell ⟨S, 2, none⟩ (.int .i64 (bg : Int))) S #[.int .i64 (pt : Int), .string (textOf nm), .int .i64 (bg : Int)] 38 := hB6.setCell 2 (.int .i64 (bg : Int))
      have hR7 := hR6.keeps hO7 (fun e => hSp e.symm)
      have hrow7 := hrow6.keeps hO7 (fun j hj e => hSv j hj e)
      have hO7' := hO6'.setCell (p := ⟨S, 2, none⟩) (fun h => by have h' : S < w.heap.size := h; omega) (.int .i64 (bg : Int))
      generalize w6.setCell ⟨S, 2, none⟩ (.int .i64 (bg : Int)) = w7 at hB7 hR7 hrow7 hO7' ⊢
      clear hB6 hR6 hrow6 hO6' hO7 c2 f2
      have c0 := hB7.cell 0
      have c1 := hB7.cell 1
      have c2 := hB7.cell 2
      simp only [List.getElem?_toArray, List.getElem?_cons_succ, List.getElem?_cons_zero] at c0 c1 c2
      have hsz := hO7'.size
      go_upto_region 4 with (first
        | (at_builtin; refine wpList_append_row1 stpT _ rfl _ _ rfl w.heap.size _ l ⟨pt, nm, bg⟩ w7.heap.size 1 rfl (hrow7.keepsN ((Only.refl NoBlock _).alloc _)) rfl (made_cells stpK w7 _ _ rfl _ _ rfl) (by omega) (by simp; omega) ?_; intro v8 w8 hrow8 hg8 hv8))
      have hO8 : Only (fun k => k = p) w w8 := (hO7'.alloc _).grown hg8 (fun j hj hlt => by have := (World.ownsRow.lt hrow7 j hj).1; omega)
      have hR8 : ReaderAt w8 p q6 := (hR7.keeps ((Only.refl NoBlock w7).alloc _) (fun h => h)).keeps (Only.of_grown hg8) (fun h => hvp p h rfl)
      have HQ3 := Lib.hid HQ2.out
      have hl2 : (l ++ [(⟨pt, nm, bg⟩ : Pk.Stp)]).length = n - k' := by rw [List.length_append, HL.out]; simp; omega
      have HL2 := Lib.hid hl2
      clear hl2 hrow7 hR7 hO7' hg8 c0 c1 c2 hB7
      go_wp2_with fail
      go_roundw
      case rel => exact ⟨k', _, q6, _, by omega, HL2.out, by go_num, rfl, hrow8, hR8, hO8, Lib.hid (by have := HQ3.out; rw [HS1.out] at this; exact this)⟩
      case measure => simp [intOf]
    · obtain rfl : k = 0 := by omega
      have HE : RowKit.Hid (Pk.rdSn n r1 = (l, q)) := Lib.hid (by have := HQ.out; unfold SnRest at this; rw [this]; simp [Pk.rdSn])
      clear HQ hk0
      go_wp2_with fail
      refine (rleft_at wr p q hR).mono ?_
      rintro e w2 ⟨rfl, m, rfl⟩
      have hR2 := hR.keeps ((Only.refl NoBlock wr).drewN m) (fun h => h)
      have hrow2 := hrow.keepsN ((Only.refl NoBlock wr).drewN m)
      obtain ⟨ao, cap, rfl, hin⟩ := hrow2.read
      have hq := HS.out
      rw [HE.out] at hq
      have HQ := Lib.hid hq
      clear hq HS HE
      obtain ⟨qs, qb⟩ := q
      cases qb with
      | true =>
        go_wp2_with fail
        go_ret
        exact ⟨none, 0, by rw [HQ.out]; rfl, by rw [HQ.out]; exact RowIn.nil _, by rw [HQ.out]; exact hR2, hO.drewN m⟩
      | false =>
        go_wp2_with fail
        go_ret
        exact ⟨ao, cap, by rw [HQ.out]; rfl, by rw [HQ.out]; exact hin, by rw [HQ.out]; exact hR2, hO.drewN m⟩
end Go.Proofs.Ytogeeeigfhmpmaa
