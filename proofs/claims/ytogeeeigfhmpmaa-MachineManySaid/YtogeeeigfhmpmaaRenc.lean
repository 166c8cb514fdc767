/- The document's Encode of a command (layer 16). -/
import Derived.Test.YtogeeeigfhmpmaaRcmdC
namespace Go.Proofs.Ytogeeeigfhmpmaa
open Go.RowKit
set_option maxRecDepth 100000

/-- tontineref16.Encode's answer -/
def encE (c : Pk.Cmd) : Value := if c.kind = 2 ∧ Pk.okSs c.steps = false then .tuple #[.string ⟨#[]⟩, .int .i64 44] else if Pk.may c = false then .tuple #[.string ⟨#[]⟩, .int .i64 1] else .tuple #[.string (textOf (Pk.enc c)), .int .i64 0]
theorem encE_may {c : Pk.Cmd} (h : Pk.may c = true) : encE c = .tuple #[.string (textOf (Pk.enc c)), .int .i64 0] := by
  unfold encE
  rw [if_neg, if_neg (by simp [h])]
  rintro ⟨h2, hs⟩
  unfold Pk.may at h
  rw [if_neg (by omega), if_pos h2, hs] at h
  cases h
theorem encSs_len {l : List Pk.Stp} (h : Smalls l) : (Pk.encSs l).length ≤ 4000 := by
  have h1 := num_len (x := l.length) (by have := h.1; omega)
  have h2 := numSs_len h.2
  have h3 := h.1
  unfold numSs at h2
  unfold Pk.encSs
  rw [List.length_append]
  omega
theorem truth_conv (n : Nat) (h : n < 1000) : IntKind.u64.wrap (n : Int) = (n : Int) := by rw [IntKind.wrap_u64]; omega
theorem encE_no {c : Pk.Cmd} (h : Pk.may c = false) (h2 : ¬ (c.kind = 2 ∧ Pk.okSs c.steps = false)) : encE c = .tuple #[.string ⟨#[]⟩, .int .i64 1] := by
  unfold encE
  rw [if_neg h2, if_pos h]
theorem encE_def {c : Pk.Cmd} (h2 : c.kind = 2 ∧ Pk.okSs c.steps = false) : encE c = .tuple #[.string ⟨#[]⟩, .int .i64 44] := by
  unfold encE
  rw [if_pos h2]
set_option maxHeartbeats 4000000 in
theorem rencE_at (w : World) (a b sg : Nat) (l : List Pk.Stp) (ao : Option Addr) (cap : Nat) (st : Nat) (bk : Bool) (tr : Nat) (ok : Bool) (now : Nat) (k : Nat) (hk5 : k ≤ 5) (h2 : k ≠ 2) (h4 : k ≠ 4) (hwf : Pk.Cmd.Wf ⟨k, a, b, sg, l, st, bk, tr, ok, now⟩) (_hst : st < 1000) (_htr : tr < 1000) (hsm : Smalls l) (_hby : Bytesy l) (hrow : RowIn stpK 38 w ao l) :
    Calls Try.prog 9 #[.agg #[.int .i64 k, .int .u64 a, .int .u64 b, .int .u64 sg, .slice ao l.length cap, .int .i64 (st : Int), .bool bk, .int .i64 (tr : Int), .bool ok, .int .u64 now]] w fun e w' => e = .returned (encE ⟨k, a, b, sg, l, st, bk, tr, ok, now⟩) ∧ Only NoBlock w w' := by
  have hw1 := hwf.session
  have hw2 := hwf.seq
  have hw3 := hwf.saga
  have hw4 := hwf.now
  simp only at hw1 hw2 hw3 hw4
  have hn64 := hsm.1
  go_enter Try.func9, Try.ntmps9
  go_upto_region 1 with fail
  have hB := Blk.made w #[.int .i64 k, .int .u64 a, .int .u64 b, .int .u64 sg, .slice ao l.length cap, .int .i64 (st : Int), .bool bk, .int .i64 (tr : Int), .bool ok, .int .u64 now] 31
  have hO := (Only.refl NoBlock w).alloc (Obj.cells #[.int .i64 k, .int .u64 a, .int .u64 b, .int .u64 sg, .slice ao l.length cap, .int .i64 (st : Int), .bool bk, .int .i64 (tr : Int), .bool ok, .int .u64 now] 31)
  have hr := hrow.keepsN hO
  generalize w.alloc (Obj.cells #[.int .i64 k, .int .u64 a, .int .u64 b, .int .u64 sg, .slice ao l.length cap, .int .i64 (st : Int), .bool bk, .int .i64 (tr : Int), .bool ok, .int .u64 now] 31) = w1 at hB hO hr ⊢
  generalize w.heap.size = X at hB ⊢
  clear hrow hwf
  have d2 : ((k : Int) == 2) = false := by simp; omega
  have d4 : ((k : Int) == 4) = false := by simp; omega
  have HEQ : RowKit.Hid (textOf (numsB [k, a, b, sg, now]) = textOf (Pk.enc ⟨k, a, b, sg, l, st, bk, tr, ok, now⟩)) := Lib.hid (by unfold Pk.enc numsB; simp [h2, h4])
  have HK := Lib.hid (And.intro h2 h4)
  have c0 := hB.cell 0
  have c1 := hB.cell 1
  have c2 := hB.cell 2
  have c3 := hB.cell 3
  have c4 := hB.cell 4
  have c5 := hB.cell 5
  have c6 := hB.cell 6
  have c7 := hB.cell 7
  have c8 := hB.cell 8
  have c9 := hB.cell 9
  simp only [List.getElem?_toArray, List.getElem?_cons_succ, List.getElem?_cons_zero] at c0 c1 c2 c3 c4 c5 c6 c7 c8 c9
  go_upto_region 3 with fail
  clear c0 c1 c2 c3 c4 c5 c6 c7 c8 c9
  have c0 := hB.cell 0
  have c1 := hB.cell 1
  have c2 := hB.cell 2
  have c3 := hB.cell 3
  have c4 := hB.cell 4
  have c5 := hB.cell 5
  have c6 := hB.cell 6
  have c7 := hB.cell 7
  have c8 := hB.cell 8
  have c9 := hB.cell 9
  simp only [List.getElem?_toArray, List.getElem?_cons_succ, List.getElem?_cons_zero] at c0 c1 c2 c3 c4 c5 c6 c7 c8 c9
  go_wp2_with fail
  refine (rmaycmd_at w1 ⟨k, a, b, sg, l, st, bk, tr, ok, now⟩ ao cap hsm hr).mono ?_
  rintro e w2 ⟨rfl, hO2⟩
  have hB2 := hB.keeps hO2 (fun h => h)
  have hOa := hO.trans hO2
  have hr2 := hr.keepsN hO2
  clear hB hO hr hO2
  clear c0 c1 c2 c3 c4 c5 c6 c7 c8 c9
  cases hmy : Pk.may ⟨k, a, b, sg, l, st, bk, tr, ok, now⟩ with
  | false =>
    have HE := Lib.hid (encE_no hmy (fun h => by simp at h <;> omega))
    clear hmy
    go_wp2_with fail
    go_ret2
    exact ⟨by rw [HE.out]; rfl, hOa⟩
  | true =>
    have HE := Lib.hid (encE_may hmy)
    clear hmy
    have c0 := hB2.cell 0
    have c1 := hB2.cell 1
    have c2 := hB2.cell 2
    have c3 := hB2.cell 3
    have c4 := hB2.cell 4
    have c5 := hB2.cell 5
    have c6 := hB2.cell 6
    have c7 := hB2.cell 7
    have c8 := hB2.cell 8
    have c9 := hB2.cell 9
    simp only [List.getElem?_toArray, List.getElem?_cons_succ, List.getElem?_cons_zero] at c0 c1 c2 c3 c4 c5 c6 c7 c8 c9
    have hcvk := truth_conv k (by omega)
    go_upto_region 5 with fail
    have hrw := u64s_made w2 [k, a, b, sg, now] 28 (by simp) (by intro y hy; simp at hy; rcases hy with rfl | rfl | rfl | rfl | rfl <;> omega)
    have hAl := (Only.refl NoBlock w2).alloc (Obj.cells (List.map (fun (x : Nat) => Value.int .u64 (x : Int)) [k, a, b, sg, now]).toArray 28)
    have HN := Lib.hid (rfl : textOf (numsB [k, a, b, sg, now]) = textOf (numsB [k, a, b, sg, now]))
    have hl5 := numsB_len (l := [k, a, b, sg, now]) (by intro y hy; simp at hy; rcases hy with rfl | rfl | rfl | rfl | rfl <;> omega)
    simp only [List.length_cons, List.length_nil] at hl5
    go_wp2_with fail
    refine (rnums16_as hrw rfl rfl).mono ?_
    rintro e w3 ⟨rfl, hO3⟩
    have hB3 := (hB2.keeps hAl (fun h => h)).keeps hO3 (fun h => h)
    have hOb := (hOa.trans hAl).trans hO3
    have hr3 := (hr2.keepsN hAl).keepsN hO3
    clear hB2 hOa hr2 hO3 hrw hAl
    clear c0 c1 c2 c3 c4 c5 c6 c7 c8 c9
    have c0 := hB3.cell 0
    have c1 := hB3.cell 1
    have c2 := hB3.cell 2
    have c3 := hB3.cell 3
    have c4 := hB3.cell 4
    have c5 := hB3.cell 5
    have c6 := hB3.cell 6
    have c7 := hB3.cell 7
    have c8 := hB3.cell 8
    have c9 := hB3.cell 9
    simp only [List.getElem?_toArray, List.getElem?_cons_succ, List.getElem?_cons_zero] at c0 c1 c2 c3 c4 c5 c6 c7 c8 c9
    go_wp2_with fail
    go_ret2
    exact ⟨by rw [HE.out, ← HEQ.out]; rfl, hOb⟩
set_option maxHeartbeats 4000000 in
theorem renc2_at (w : World) (a b sg : Nat) (l : List Pk.Stp) (ao : Option Addr) (cap : Nat) (st : Nat) (bk : Bool) (tr : Nat) (ok : Bool) (now : Nat)  (hwf : Pk.Cmd.Wf ⟨2, a, b, sg, l, st, bk, tr, ok, now⟩) (_hst : st < 1000) (_htr : tr < 1000) (hsm : Smalls l) (hby : Bytesy l) (hrow : RowIn stpK 38 w ao l) :
    Calls Try.prog 9 #[.agg #[.int .i64 2, .int .u64 a, .int .u64 b, .int .u64 sg, .slice ao l.length cap, .int .i64 (st : Int), .bool bk, .int .i64 (tr : Int), .bool ok, .int .u64 now]] w fun e w' => e = .returned (encE ⟨2, a, b, sg, l, st, bk, tr, ok, now⟩) ∧ Only NoBlock w w' := by
  have hw1 := hwf.session
  have hw2 := hwf.seq
  have hw3 := hwf.saga
  have hw4 := hwf.now
  simp only at hw1 hw2 hw3 hw4
  have hn64 := hsm.1
  go_enter Try.func9, Try.ntmps9
  go_upto_region 1 with fail
  have hB := Blk.made w #[.int .i64 2, .int .u64 a, .int .u64 b, .int .u64 sg, .slice ao l.length cap, .int .i64 (st : Int), .bool bk, .int .i64 (tr : Int), .bool ok, .int .u64 now] 31
  have hO := (Only.refl NoBlock w).alloc (Obj.cells #[.int .i64 2, .int .u64 a, .int .u64 b, .int .u64 sg, .slice ao l.length cap, .int .i64 (st : Int), .bool bk, .int .i64 (tr : Int), .bool ok, .int .u64 now] 31)
  have hr := hrow.keepsN hO
  generalize w.alloc (Obj.cells #[.int .i64 2, .int .u64 a, .int .u64 b, .int .u64 sg, .slice ao l.length cap, .int .i64 (st : Int), .bool bk, .int .i64 (tr : Int), .bool ok, .int .u64 now] 31) = w1 at hB hO hr ⊢
  generalize w.heap.size = X at hB ⊢
  clear hrow hwf
  have HEQ : RowKit.Hid (textOf (numsB [2, a, b, sg, now]) ++ textOf (Pk.encSs l) = textOf (Pk.enc ⟨2, a, b, sg, l, st, bk, tr, ok, now⟩)) := Lib.hid (by rw [← textOf_append]; unfold Pk.enc numsB; simp)
  have c0 := hB.cell 0
  have c1 := hB.cell 1
  have c2 := hB.cell 2
  have c3 := hB.cell 3
  have c4 := hB.cell 4
  have c5 := hB.cell 5
  have c6 := hB.cell 6
  have c7 := hB.cell 7
  have c8 := hB.cell 8
  have c9 := hB.cell 9
  simp only [List.getElem?_toArray, List.getElem?_cons_succ, List.getElem?_cons_zero] at c0 c1 c2 c3 c4 c5 c6 c7 c8 c9
  go_wp2_with fail
  refine (rcheck_at w1 ao cap l hr hsm).mono ?_
  rintro e w1' ⟨rfl, hO'⟩
  have hB' := hB.keeps hO' (fun h => h)
  have hO'' := hO.trans hO'
  have hr' := hr.keepsN hO'
  clear hB hO hr hO'
  clear c0 c1 c2 c3 c4 c5 c6 c7 c8 c9
  have hB := hB'
  have hO := hO''
  have hr := hr'
  clear hB' hO'' hr'
  cases hok : Pk.okSs l with
  | false =>
    have HE := Lib.hid (encE_def (c := ⟨2, a, b, sg, l, st, bk, tr, ok, now⟩) ⟨rfl, hok⟩)
    rw [checkV_no hok]
    clear hok
    go_wp2_with fail
    go_ret2
    exact ⟨by rw [HE.out]; rfl, hO⟩
  | true =>
    rw [checkV_yes hok]
    have HOK := Lib.hid hok
    clear hok
    have c0 := hB.cell 0
    have c1 := hB.cell 1
    have c2 := hB.cell 2
    have c3 := hB.cell 3
    have c4 := hB.cell 4
    have c5 := hB.cell 5
    have c6 := hB.cell 6
    have c7 := hB.cell 7
    have c8 := hB.cell 8
    have c9 := hB.cell 9
    simp only [List.getElem?_toArray, List.getElem?_cons_succ, List.getElem?_cons_zero] at c0 c1 c2 c3 c4 c5 c6 c7 c8 c9
    go_wp2_with fail
    refine (rmaycmd_at w1' ⟨2, a, b, sg, l, st, bk, tr, ok, now⟩ ao cap hsm hr).mono ?_
    rintro e w2 ⟨rfl, hO2⟩
    have hB2 := hB.keeps hO2 (fun h => h)
    have hOa := hO.trans hO2
    have hr2 := hr.keepsN hO2
    clear hB hO hr hO2
    clear c0 c1 c2 c3 c4 c5 c6 c7 c8 c9
    cases hmy : Pk.may ⟨2, a, b, sg, l, st, bk, tr, ok, now⟩ with
    | false =>
      have HE := Lib.hid (encE_no hmy (fun h => by rw [HOK.out] at h; simp at h))
      clear hmy
      go_wp2_with fail
      go_ret2
      exact ⟨by rw [HE.out]; rfl, hOa⟩
    | true =>
      have HE := Lib.hid (encE_may hmy)
      clear hmy
      have c0 := hB2.cell 0
      have c1 := hB2.cell 1
      have c2 := hB2.cell 2
      have c3 := hB2.cell 3
      have c4 := hB2.cell 4
      have c5 := hB2.cell 5
      have c6 := hB2.cell 6
      have c7 := hB2.cell 7
      have c8 := hB2.cell 8
      have c9 := hB2.cell 9
      simp only [List.getElem?_toArray, List.getElem?_cons_succ, List.getElem?_cons_zero] at c0 c1 c2 c3 c4 c5 c6 c7 c8 c9
      have hcvk := truth_conv 2 (by omega)
      go_upto_region 5 with fail
      have hrw := u64s_made w2 [2, a, b, sg, now] 28 (by simp) (by intro y hy; simp at hy; rcases hy with rfl | rfl | rfl | rfl | rfl <;> omega)
      have hAl := (Only.refl NoBlock w2).alloc (Obj.cells (List.map (fun (x : Nat) => Value.int .u64 (x : Int)) [2, a, b, sg, now]).toArray 28)
      have HN := Lib.hid (rfl : textOf (numsB [2, a, b, sg, now]) = textOf (numsB [2, a, b, sg, now]))
      have hl5 := numsB_len (l := [2, a, b, sg, now]) (by intro y hy; simp at hy; rcases hy with rfl | rfl | rfl | rfl | rfl <;> omega)
      simp only [List.length_cons, List.length_nil] at hl5
      go_wp2_with fail
      refine (rnums16_as hrw rfl rfl).mono ?_
      rintro e w3 ⟨rfl, hO3⟩
      have hB3 := (hB2.keeps hAl (fun h => h)).keeps hO3 (fun h => h)
      have hOb := (hOa.trans hAl).trans hO3
      have hr3 := (hr2.keepsN hAl).keepsN hO3
      clear hB2 hOa hr2 hO3 hrw hAl
      clear c0 c1 c2 c3 c4 c5 c6 c7 c8 c9
      have c0 := hB3.cell 0
      have c1 := hB3.cell 1
      have c2 := hB3.cell 2
      have c3 := hB3.cell 3
      have c4 := hB3.cell 4
      have c5 := hB3.cell 5
      have c6 := hB3.cell 6
      have c7 := hB3.cell 7
      have c8 := hB3.cell 8
      have c9 := hB3.cell 9
      simp only [List.getElem?_toArray, List.getElem?_cons_succ, List.getElem?_cons_zero] at c0 c1 c2 c3 c4 c5 c6 c7 c8 c9
      go_wp2_with fail
      refine (rbytes13_at w3 ao cap l hr3 hsm hby).mono ?_
      rintro e w4 ⟨rfl, hO4⟩
      have hB4 := hB3.keeps hO4 (fun h => h)
      have hOc := hOb.trans hO4
      clear hB3 hOb hr3 hO4
      clear c0 c1 c2 c3 c4 c5 c6 c7 c8 c9
      have c0 := hB4.cell 0
      have c1 := hB4.cell 1
      have c2 := hB4.cell 2
      have c3 := hB4.cell 3
      have c4 := hB4.cell 4
      have c5 := hB4.cell 5
      have c6 := hB4.cell 6
      have c7 := hB4.cell 7
      have c8 := hB4.cell 8
      have c9 := hB4.cell 9
      simp only [List.getElem?_toArray, List.getElem?_cons_succ, List.getElem?_cons_zero] at c0 c1 c2 c3 c4 c5 c6 c7 c8 c9
      have hel := encSs_len hsm
      have z1 : (textOf (numsB [2, a, b, sg, now])).size ≤ 100 := by rw [textOf_size]; omega
      have z2 : (textOf (Pk.encSs l)).size ≤ 4000 := by rw [textOf_size]; exact hel
      have hcat : (9223372036854775807 < (textOf (numsB [2, a, b, sg, now])).size + (textOf (Pk.encSs l)).size) = False := by simp; omega
      go_wp2_with fail
      go_ret2
      exact ⟨by rw [HE.out, ← HEQ.out]; rfl, hOc⟩
set_option maxHeartbeats 4000000 in
theorem renc4_at (w : World) (a b sg : Nat) (l : List Pk.Stp) (ao : Option Addr) (cap : Nat) (st : Nat) (bk : Bool) (tr : Nat) (ok : Bool) (now : Nat)  (hwf : Pk.Cmd.Wf ⟨4, a, b, sg, l, st, bk, tr, ok, now⟩) (hst : st < 1000) (htr : tr < 1000) (hsm : Smalls l) (_hby : Bytesy l) (hrow : RowIn stpK 38 w ao l) :
    Calls Try.prog 9 #[.agg #[.int .i64 4, .int .u64 a, .int .u64 b, .int .u64 sg, .slice ao l.length cap, .int .i64 (st : Int), .bool bk, .int .i64 (tr : Int), .bool ok, .int .u64 now]] w fun e w' => e = .returned (encE ⟨4, a, b, sg, l, st, bk, tr, ok, now⟩) ∧ Only NoBlock w w' := by
  have hw1 := hwf.session
  have hw2 := hwf.seq
  have hw3 := hwf.saga
  have hw4 := hwf.now
  simp only at hw1 hw2 hw3 hw4
  have hn64 := hsm.1
  go_enter Try.func9, Try.ntmps9
  go_upto_region 1 with fail
  have hB := Blk.made w #[.int .i64 4, .int .u64 a, .int .u64 b, .int .u64 sg, .slice ao l.length cap, .int .i64 (st : Int), .bool bk, .int .i64 (tr : Int), .bool ok, .int .u64 now] 31
  have hO := (Only.refl NoBlock w).alloc (Obj.cells #[.int .i64 4, .int .u64 a, .int .u64 b, .int .u64 sg, .slice ao l.length cap, .int .i64 (st : Int), .bool bk, .int .i64 (tr : Int), .bool ok, .int .u64 now] 31)
  have hr := hrow.keepsN hO
  generalize w.alloc (Obj.cells #[.int .i64 4, .int .u64 a, .int .u64 b, .int .u64 sg, .slice ao l.length cap, .int .i64 (st : Int), .bool bk, .int .i64 (tr : Int), .bool ok, .int .u64 now] 31) = w1 at hB hO hr ⊢
  generalize w.heap.size = X at hB ⊢
  clear hrow hwf
  have HEQ : RowKit.Hid (textOf (numsB [4, a, b, sg, now]) ++ textOf (numsB [st, Pk.truth bk, tr, Pk.truth ok]) = textOf (Pk.enc ⟨4, a, b, sg, l, st, bk, tr, ok, now⟩)) := Lib.hid (by rw [← textOf_append]; unfold Pk.enc numsB; simp)
  have ht1 := Pk.truth_le bk
  have ht2 := Pk.truth_le ok
  have c0 := hB.cell 0
  have c1 := hB.cell 1
  have c2 := hB.cell 2
  have c3 := hB.cell 3
  have c4 := hB.cell 4
  have c5 := hB.cell 5
  have c6 := hB.cell 6
  have c7 := hB.cell 7
  have c8 := hB.cell 8
  have c9 := hB.cell 9
  simp only [List.getElem?_toArray, List.getElem?_cons_succ, List.getElem?_cons_zero] at c0 c1 c2 c3 c4 c5 c6 c7 c8 c9
  go_upto_region 3 with fail
  clear c0 c1 c2 c3 c4 c5 c6 c7 c8 c9
  have c0 := hB.cell 0
  have c1 := hB.cell 1
  have c2 := hB.cell 2
  have c3 := hB.cell 3
  have c4 := hB.cell 4
  have c5 := hB.cell 5
  have c6 := hB.cell 6
  have c7 := hB.cell 7
  have c8 := hB.cell 8
  have c9 := hB.cell 9
  simp only [List.getElem?_toArray, List.getElem?_cons_succ, List.getElem?_cons_zero] at c0 c1 c2 c3 c4 c5 c6 c7 c8 c9
  go_wp2_with fail
  refine (rmaycmd_at w1 ⟨4, a, b, sg, l, st, bk, tr, ok, now⟩ ao cap hsm hr).mono ?_
  rintro e w2 ⟨rfl, hO2⟩
  have hB2 := hB.keeps hO2 (fun h => h)
  have hOa := hO.trans hO2
  have hr2 := hr.keepsN hO2
  clear hB hO hr hO2
  clear c0 c1 c2 c3 c4 c5 c6 c7 c8 c9
  cases hmy : Pk.may ⟨4, a, b, sg, l, st, bk, tr, ok, now⟩ with
  | false =>
    have HE := Lib.hid (encE_no hmy (fun h => by simp at h <;> omega))
    clear hmy
    go_wp2_with fail
    go_ret2
    exact ⟨by rw [HE.out]; rfl, hOa⟩
  | true =>
    have HE := Lib.hid (encE_may hmy)
    clear hmy
    have c0 := hB2.cell 0
    have c1 := hB2.cell 1
    have c2 := hB2.cell 2
    have c3 := hB2.cell 3
    have c4 := hB2.cell 4
    have c5 := hB2.cell 5
    have c6 := hB2.cell 6
    have c7 := hB2.cell 7
    have c8 := hB2.cell 8
    have c9 := hB2.cell 9
    simp only [List.getElem?_toArray, List.getElem?_cons_succ, List.getElem?_cons_zero] at c0 c1 c2 c3 c4 c5 c6 c7 c8 c9
    have hcvk := truth_conv 4 (by omega)
    go_upto_region 5 with fail
    have hrw := u64s_made w2 [4, a, b, sg, now] 28 (by simp) (by intro y hy; simp at hy; rcases hy with rfl | rfl | rfl | rfl | rfl <;> omega)
    have hAl := (Only.refl NoBlock w2).alloc (Obj.cells (List.map (fun (x : Nat) => Value.int .u64 (x : Int)) [4, a, b, sg, now]).toArray 28)
    have HN := Lib.hid (rfl : textOf (numsB [4, a, b, sg, now]) = textOf (numsB [4, a, b, sg, now]))
    have hl5 := numsB_len (l := [4, a, b, sg, now]) (by intro y hy; simp at hy; rcases hy with rfl | rfl | rfl | rfl | rfl <;> omega)
    simp only [List.length_cons, List.length_nil] at hl5
    go_wp2_with fail
    refine (rnums16_as hrw rfl rfl).mono ?_
    rintro e w3 ⟨rfl, hO3⟩
    have hB3 := (hB2.keeps hAl (fun h => h)).keeps hO3 (fun h => h)
    have hOb := (hOa.trans hAl).trans hO3
    have hr3 := (hr2.keepsN hAl).keepsN hO3
    clear hB2 hOa hr2 hO3 hrw hAl
    clear c0 c1 c2 c3 c4 c5 c6 c7 c8 c9
    have c0 := hB3.cell 0
    have c1 := hB3.cell 1
    have c2 := hB3.cell 2
    have c3 := hB3.cell 3
    have c4 := hB3.cell 4
    have c5 := hB3.cell 5
    have c6 := hB3.cell 6
    have c7 := hB3.cell 7
    have c8 := hB3.cell 8
    have c9 := hB3.cell 9
    simp only [List.getElem?_toArray, List.getElem?_cons_succ, List.getElem?_cons_zero] at c0 c1 c2 c3 c4 c5 c6 c7 c8 c9
    have cv1 := truth_conv st hst
    have cv2 := truth_conv tr htr
    have hl4 := numsB_len (l := [st, Pk.truth bk, tr, Pk.truth ok]) (by intro y hy; simp at hy; rcases hy with rfl | rfl | rfl | rfl <;> omega)
    simp only [List.length_cons, List.length_nil] at hl4
    have z1 : (textOf (numsB [4, a, b, sg, now])).size ≤ 100 := by rw [textOf_size]; omega
    have z2 : (textOf (numsB [st, Pk.truth bk, tr, Pk.truth ok])).size ≤ 100 := by rw [textOf_size]; omega
    have hcat : (9223372036854775807 < (textOf (numsB [4, a, b, sg, now])).size + (textOf (numsB [st, Pk.truth bk, tr, Pk.truth ok])).size) = False := by simp; omega
    have HWF : RowKit.Hid (∀ y ∈ [st, Pk.truth bk, tr, Pk.truth ok], y < 18446744073709551616) := Lib.hid (by intro y hy; simp at hy; rcases hy with rfl | rfl | rfl | rfl <;> omega)
    go_upto_region 9 with fail
    have hD3 : Only NoBlock w3 w3.drew := (Only.refl NoBlock w3).drew
    have hrw := u64s_made w3.drew [st, Pk.truth bk, tr, Pk.truth ok] 28 (by simp) HWF.out
    generalize hs5 : textOf (numsB [4, a, b, sg, now]) = s5 at hcat z1 HEQ ⊢
    clear hs5
    generalize hs4 : textOf (numsB [st, Pk.truth bk, tr, Pk.truth ok]) = s4 at hcat z2 HEQ
    have HS4 := Lib.hid hs4
    clear hs4
    go_region_held3 (fun w' => w'.cell? ⟨X, 5, none⟩ = some (.int .i64 (st : Int)) ∧ w'.cell? ⟨X, 6, none⟩ = some (.bool bk) ∧ w'.cell? ⟨X, 7, none⟩ = some (.int .i64 (tr : Int)) ∧ w'.cell? ⟨X, 8, none⟩ = some (.bool ok))
      (first | with_reducible exact ⟨c5, c6, c7, c8⟩ | exact ⟨by assumption, by assumption, by assumption, by assumption⟩ | go_keep)
      (first | (go_at_call 25; refine (truth_at _ _).mono ?_; rintro e w5 ⟨rfl, rfl⟩) | (go_at_call 23; refine (rnums16_as hrw rfl HS4.out).mono ?_; rintro e w6 ⟨rfl, hO6⟩; have k5 := keepN hO6 (keepN ((Only.refl NoBlock w3.drew).alloc _) c5); have k6 := keepN hO6 (keepN ((Only.refl NoBlock w3.drew).alloc _) c6); have k7 := keepN hO6 (keepN ((Only.refl NoBlock w3.drew).alloc _) c7); have k8 := keepN hO6 (keepN ((Only.refl NoBlock w3.drew).alloc _) c8)))
    all_goals
      go_wp2_with fail
      go_ret2
      exact ⟨by rw [HE.out, ← HEQ.out]; rfl, ((hOb.trans hD3).alloc _).trans hO6⟩
theorem renc_at (w : World) (c : Pk.Cmd) (ao : Option Addr) (cap : Nat) (hk : c.kind ≤ 5) (hwf : c.Wf) (hst : c.step < 1000) (htr : c.try_ < 1000) (hsm : Smalls c.steps) (hby : Bytesy c.steps) (hrow : RowIn stpK 38 w ao c.steps) :
    Calls Try.prog 9 #[cmdV c ao cap] w fun e w' => e = .returned (encE c) ∧ Only NoBlock w w' := by
  obtain ⟨k, a, b, s, l, st, bk, tr, ok, now⟩ := c
  simp only at hk hst htr hsm hby hrow
  by_cases h2 : k = 2
  · subst h2; exact renc2_at w a b s l ao cap st bk tr ok now hwf hst htr hsm hby hrow
  by_cases h4 : k = 4
  · subst h4; exact renc4_at w a b s l ao cap st bk tr ok now hwf hst htr hsm hby hrow
  exact rencE_at w a b s l ao cap st bk tr ok now k hk h2 h4 hwf hst htr hsm hby hrow
end Go.Proofs.Ytogeeeigfhmpmaa
