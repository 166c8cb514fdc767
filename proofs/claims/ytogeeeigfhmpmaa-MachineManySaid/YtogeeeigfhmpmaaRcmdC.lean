/- The document's Bytes of steps, bare, May (layers 13, 16). -/
import Derived.Test.YtogeeeigfhmpmaaRcmdB
namespace Go.Proofs.Ytogeeeigfhmpmaa
open Go.RowKit
set_option maxRecDepth 100000

/-- names are bytes -/
def Bytesy (l : List Pk.Stp) : Prop := ∀ t ∈ l, ∀ c ∈ t.name, 0 ≤ c ∧ c ≤ 255
theorem keepN {w w' : World} {b o : Nat} {v : Value} (ho : Only NoBlock w w') (h : w.cell? ⟨b, o, none⟩ = some v) : w'.cell? ⟨b, o, none⟩ = some v := by
  have hlt := World.block_lt_of_cell? w _ h
  have hb := ho.block b hlt (fun h => h)
  exact (World.cell?_of_block (a := ⟨b, o, none⟩) hb).trans h
theorem dnum_held {wr w' : World} {b o : Nat} {v0 v1 v2 : Value} {x : Nat} (h : w'.cell? ⟨b, o, none⟩ = some v0 ∧ w'.cell? ⟨b, o + 1, none⟩ = some v1 ∧ w'.cell? ⟨b, o + 2, none⟩ = some v2 ∧ Only NoBlock wr w') (hx : x < 18446744073709551616) :
    Calls Try.prog 54 #[.int .u64 x] w' fun e w'' => e = .returned (.string (textOf (Pk.num x))) ∧ w''.cell? ⟨b, o, none⟩ = some v0 ∧ w''.cell? ⟨b, o + 1, none⟩ = some v1 ∧ w''.cell? ⟨b, o + 2, none⟩ = some v2 ∧ Only NoBlock wr w'' :=
  (dnum_at w' x hx).mono (fun _ _ hh => ⟨hh.1, keepN hh.2 h.1, keepN hh.2 h.2.1, keepN hh.2 h.2.2.1, h.2.2.2.trans hh.2⟩)
theorem dtext_held {wr w' : World} {b o : Nat} {v0 v1 v2 : Value} {nm : List Int} (h : w'.cell? ⟨b, o, none⟩ = some v0 ∧ w'.cell? ⟨b, o + 1, none⟩ = some v1 ∧ w'.cell? ⟨b, o + 2, none⟩ = some v2 ∧ Only NoBlock wr w') (hx : nm.length ≤ 16) (hb : ∀ c ∈ nm, 0 ≤ c ∧ c ≤ 255) :
    Calls Try.prog 55 #[.string (textOf nm)] w' fun e w'' => e = .returned (.string (textOf (Pk.text nm))) ∧ w''.cell? ⟨b, o, none⟩ = some v0 ∧ w''.cell? ⟨b, o + 1, none⟩ = some v1 ∧ w''.cell? ⟨b, o + 2, none⟩ = some v2 ∧ Only NoBlock wr w'' := by
  refine (dtext_at w' (textOf nm) (by rw [textOf_size]; omega)).mono (fun _ _ hh => ⟨?_, keepN hh.2 h.1, keepN hh.2 h.2.1, keepN hh.2 h.2.2.1, h.2.2.2.trans hh.2⟩)
  rw [hh.1, nums_textOf hb]
theorem text_len {nm : List Int} (h : nm.length ≤ 16) : (Pk.text nm).length ≤ 25 := by
  have := num_len (x := nm.length) (by omega)
  unfold Pk.text
  rw [List.length_append]
  omega
set_option maxHeartbeats 4000000 in
theorem rbytes13_at (w : World) (ao : Option Addr) (cap : Nat) (l : List Pk.Stp) (h : RowIn stpK 38 w ao l) (hs : Smalls l) (hby : Bytesy l) :
    Calls Try.prog 24 #[.slice ao l.length cap] w fun e w' => e = .returned (.string (textOf (Pk.encSs l))) ∧ Only NoBlock w w' := by
  have hn64 := hs.1
  have hnl := num_len (x := l.length) (by omega)
  have hconv : IntKind.u64.wrap (l.length : Int) = (l.length : Int) := by rw [IntKind.wrap_u64]; omega
  go_enter Try.func24, Try.ntmps24
  go_wp2_with fail
  refine (dnum_at w l.length (by omega)).mono ?_
  rintro e w1 ⟨rfl, hO1⟩
  go_wp2_with fail
  go_loopw [3, 4] (fun v3 v4 wr => ∃ (k : Nat) (bs : List Int), k ≤ l.length ∧ v3 = .string (textOf bs) ∧ v4 = .int .i64 k ∧ bs.length ≤ 9 + 60 * k ∧ RowKit.Hid (bs = Pk.num l.length ++ numSs (l.take k)) ∧ Only NoBlock w wr) (fun _ v4 _ => l.length - (intOf v4).toNat)
  case atStart => exact ⟨0, Pk.num l.length, by omega, rfl, rfl, by omega, Lib.hid (by unfold numSs; simp), hO1⟩
  case round =>
    obtain ⟨k, bs, hk, rfl, rfl, hbl, HB, hO⟩ := hrel
    by_cases hlt : k < l.length
    · have hin := h.keepsN hO
      obtain ⟨b, off, rfl⟩ := hin.shape (by omega)
      have e0 := hin.at hlt (j := 0) (by decide)
      have e1 := hin.at hlt (j := 1) (by decide)
      have e2 := hin.at hlt (j := 2) (by decide)
      obtain ⟨⟨pt, nm, bg⟩, ht⟩ : ∃ t, l.getD k stpK.zero = t := ⟨_, rfl⟩
      have hsm : SmallS ⟨pt, nm, bg⟩ := by
        rw [← ht, List.getD_eq_getElem?_getD, List.getElem?_eq_getElem hlt]
        exact hs.2 _ (List.getElem_mem hlt)
      have hnb : ∀ c ∈ nm, 0 ≤ c ∧ c ≤ 255 := by
        have : (⟨pt, nm, bg⟩ : Pk.Stp) ∈ l := by
          rw [← ht, List.getD_eq_getElem?_getD, List.getElem?_eq_getElem hlt]
          exact List.getElem_mem hlt
        exact hby _ this
      have HNB := Lib.hid hnb
      have HEN := Lib.hid (encS_len hsm)
      obtain ⟨s1, s2, s3⟩ := hsm
      have HA := Lib.hid (numSs_snoc hlt ht)
      rw [ht] at e0 e1 e2
      simp only [stpK, List.getElem?_cons_succ, List.getElem?_cons_zero, Nat.add_zero] at e0 e1 e2
      simp only at s1 s2 s3
      clear ht hin hnb
      have n1 := num_len (x := pt) (by omega)
      have n2 := text_len s2
      have n3 := num_len (x := bg) (by omega)
      have z1 : (textOf (Pk.num pt)).size ≤ 9 := by rw [textOf_size]; exact n1
      have z2 : (textOf (Pk.text nm)).size ≤ 25 := by rw [textOf_size]; exact n2
      have z3 : (textOf (Pk.num bg)).size ≤ 9 := by rw [textOf_size]; exact n3
      have z4 : (textOf bs).size ≤ 4000 := by rw [textOf_size]; omega
      have cv1 : IntKind.u64.wrap (pt : Int) = (pt : Int) := by rw [IntKind.wrap_u64]; omega
      have cv3 : IntKind.u64.wrap (bg : Int) = (bg : Int) := by rw [IntKind.wrap_u64]; omega
      have hct1 : (9223372036854775807 < (textOf (Pk.num pt)).size + (textOf (Pk.text nm)).size) = False := by simp; omega
      have hct2 : (9223372036854775807 < (textOf (Pk.num pt)).size + (textOf (Pk.text nm)).size + (textOf (Pk.num bg)).size) = False := by simp; omega
      have hct3 : (9223372036854775807 < (textOf bs).size + ((textOf (Pk.num pt)).size + (textOf (Pk.text nm)).size + (textOf (Pk.num bg)).size)) = False := by simp; omega
      have hkl : decide (k < l.length) = true := by simpa using hlt
      have hk0 : ¬ ((k : Int) < 0) := by omega
      have hOr := (Only.refl NoBlock wr).drew
      have c0 := e0
      go_upto_region 5 with fail
      go_region_held3 (fun w' => w'.cell? ⟨b, off + k * 3, none⟩ = some (.int .i64 (pt : Int)) ∧ w'.cell? ⟨b, off + k * 3 + 1, none⟩ = some (.string (textOf nm)) ∧ w'.cell? ⟨b, off + k * 3 + 2, none⟩ = some (.int .i64 (bg : Int)) ∧ Only NoBlock wr w')
        (first | exact ⟨e0, e1, e2, hOr⟩ | exact ⟨by assumption, by assumption, by assumption, by assumption⟩ | go_keep)
        (first
          | (go_at_call 54; ((with_reducible refine (dnum_held (wr := wr) (b := b) (o := off + k * 3) (v0 := .int .i64 (pt : Int)) (v1 := .string (textOf nm)) (v2 := .int .i64 (bg : Int)) (x := pt) ?_ (by omega)).mono ?_); (assumption)); rintro e w2 ⟨rfl, q0, q1, q2, hO2⟩)
          | (go_at_call 54; ((with_reducible refine (dnum_held (wr := wr) (b := b) (o := off + k * 3) (v0 := .int .i64 (pt : Int)) (v1 := .string (textOf nm)) (v2 := .int .i64 (bg : Int)) (x := bg) ?_ (by omega)).mono ?_); (assumption)); rintro e w2 ⟨rfl, q0, q1, q2, hO2⟩)
          | (go_at_call 55; ((with_reducible refine (dtext_held (wr := wr) (b := b) (o := off + k * 3) (v0 := .int .i64 (pt : Int)) (v1 := .string (textOf nm)) (v2 := .int .i64 (bg : Int)) ?_ s2 HNB.out).mono ?_); (assumption)); rintro e w2 ⟨rfl, q0, q1, q2, hO2⟩))
      all_goals
        go_wp2_with fail
        go_roundw
        case rel => exact ⟨k + 1, bs ++ Pk.encS ⟨pt, nm, bg⟩, by omega, by unfold Pk.encS; simp only [textOf_append], by go_num, by rw [List.length_append]; have := HEN.out; omega, Lib.hid (by rw [HA.out, HB.out, List.append_assoc]), by first | exact hO.trans (by assumption) | exact hO.drew⟩
        case measure => simp [intOf]; omega
    · obtain rfl : k = l.length := by omega
      have HE : RowKit.Hid (bs = Pk.encSs l) := Lib.hid (by rw [HB.out, List.take_length]; rfl)
      clear HB
      go_wp2_with fail
      go_ret
      exact ⟨by rw [← HE.out]; rfl, hO⟩
theorem rbare_at (w : World) (c : Pk.Cmd) (ao : Option Addr) (cap : Nat) :
    Calls Try.prog 53 #[cmdV c ao cap] w fun e w' => e = .returned (.bool (Pk.bare c)) ∧ Only NoBlock w w' := by
  have HB0 := Lib.hid (show Pk.bare c = (decide (c.step = 0) && !c.back && decide (c.try_ = 0) && !c.ok) from rfl)
  obtain ⟨k, a, b, sg, l, st, bk, tr, ok, now⟩ := c
  show Calls Try.prog 53 #[.agg #[.int .i64 (k : Int), .int .u64 a, .int .u64 b, .int .u64 sg, .slice ao l.length cap, .int .i64 st, .bool bk, .int .i64 tr, .bool ok, .int .u64 now]] w _
  have hA := (Only.refl NoBlock w).alloc (Obj.cells #[.int .i64 (k : Int), .int .u64 a, .int .u64 b, .int .u64 sg, .slice ao l.length cap, .int .i64 st, .bool bk, .int .i64 tr, .bool ok, .int .u64 now] 31)
  generalize Pk.bare _ = m at HB0 ⊢
  go_enter Try.func53, Try.ntmps53
  by_cases hs : st = 0
  · have dhs : ((st : Int) == 0) = true := by simp; omega
    cases bk with
    | true =>
      have HB : RowKit.Hid (m = false) := Lib.hid ((HB0.out).trans (by simp [hs]))
      clear hs
      go_wp2_with fail
      go_ret
      exact ⟨by rw [HB.out]; rfl, hA⟩
    | false =>
      by_cases ht : tr = 0
      · have dht : ((tr : Int) == 0) = true := by simp; omega
        cases ok with
        | true =>
          have HB : RowKit.Hid (m = false) := Lib.hid ((HB0.out).trans (by simp [hs, ht]))
          clear hs ht
          go_wp2_with fail
          go_ret
          exact ⟨by rw [HB.out]; rfl, hA⟩
        | false =>
          have HB : RowKit.Hid (m = true) := Lib.hid ((HB0.out).trans (by simp [hs, ht]))
          clear hs ht
          go_wp2_with fail
          go_ret
          exact ⟨by rw [HB.out]; rfl, hA⟩
      · have dht : ((tr : Int) == 0) = false := by simp; omega
        have HB : RowKit.Hid (m = false) := Lib.hid ((HB0.out).trans (by simp [hs, ht]))
        clear hs ht
        go_wp2_with fail
        go_ret
        exact ⟨by rw [HB.out]; rfl, hA⟩
  · have dhs : ((st : Int) == 0) = false := by simp; omega
    have HB : RowKit.Hid (m = false) := Lib.hid ((HB0.out).trans (by simp [hs]))
    clear hs
    go_wp2_with fail
    go_ret
    exact ⟨by rw [HB.out]; rfl, hA⟩
set_option maxHeartbeats 1600000 in
theorem rmay1_at (w : World) (a b c : Nat) (l : List Pk.Stp) (ao : Option Addr) (cap : Nat) (st : Nat) (bk : Bool) (tr : Nat) (ok : Bool) (now : Nat) (hsm : Smalls l) (_hrow : RowIn stpK 38 w ao l) :
    Calls Try.prog 22 #[.agg #[.int .i64 1, .int .u64 a, .int .u64 b, .int .u64 c, .slice ao l.length cap, .int .i64 st, .bool bk, .int .i64 tr, .bool ok, .int .u64 now]] w fun e w' => e = .returned (.bool (Pk.may ⟨1, a, b, c, l, st, bk, tr, ok, now⟩)) ∧ Only NoBlock w w' := by
  have hA := (Only.refl NoBlock w).alloc (Obj.cells #[.int .i64 (1 : Nat), .int .u64 a, .int .u64 b, .int .u64 c, .slice ao l.length cap, .int .i64 st, .bool bk, .int .i64 tr, .bool ok, .int .u64 now] 31)
  have hn64 := hsm.1

  have hm : Pk.may ⟨1, a, b, c, l, st, bk, tr, ok, now⟩ = (decide (l.length = 0) && Pk.bare ⟨1, a, b, c, l, st, bk, tr, ok, now⟩) := by rw [may_bare (k := 1) (by omega)]; unfold Pk.bare; simp [Bool.and_assoc]
  have HM := Lib.hid hm
  clear hm _hrow hsm
  generalize Pk.may _ = m at HM ⊢
  go_enter Try.func22, Try.ntmps22
  by_cases hl : l.length = 0
  · have dl : ((l.length : Int) == 0) = true := by rw [beq_iff_eq]; omega
    have HM2 := Lib.hid (HM.out.trans (by simp [hl] : _ = Pk.bare ⟨1, a, b, c, l, st, bk, tr, ok, now⟩))
    clear hl HM
    go_wp2_with fail
    refine (rbare_at _ ⟨1, a, b, c, l, st, bk, tr, ok, now⟩ ao cap).mono ?_
    rintro e w2 ⟨rfl, hO2⟩
    go_wp2_with fail
    go_ret
    exact ⟨by rw [HM2.out]; rfl, hA.trans hO2⟩
  · have dl : ((l.length : Int) == 0) = false := by rw [beq_eq_false_iff_ne]; omega
    have HB : RowKit.Hid (m = false) := Lib.hid (HM.out.trans (by simp [hl]))
    clear hl HM
    go_wp2_with fail
    go_ret
    exact ⟨by rw [HB.out]; rfl, hA⟩
set_option maxHeartbeats 1600000 in
theorem rmay3_at (w : World) (a b c : Nat) (l : List Pk.Stp) (ao : Option Addr) (cap : Nat) (st : Nat) (bk : Bool) (tr : Nat) (ok : Bool) (now : Nat) (hsm : Smalls l) (_hrow : RowIn stpK 38 w ao l) :
    Calls Try.prog 22 #[.agg #[.int .i64 3, .int .u64 a, .int .u64 b, .int .u64 c, .slice ao l.length cap, .int .i64 st, .bool bk, .int .i64 tr, .bool ok, .int .u64 now]] w fun e w' => e = .returned (.bool (Pk.may ⟨3, a, b, c, l, st, bk, tr, ok, now⟩)) ∧ Only NoBlock w w' := by
  have hA := (Only.refl NoBlock w).alloc (Obj.cells #[.int .i64 (3 : Nat), .int .u64 a, .int .u64 b, .int .u64 c, .slice ao l.length cap, .int .i64 st, .bool bk, .int .i64 tr, .bool ok, .int .u64 now] 31)
  have hn64 := hsm.1

  have hm : Pk.may ⟨3, a, b, c, l, st, bk, tr, ok, now⟩ = (decide (l.length = 0) && Pk.bare ⟨3, a, b, c, l, st, bk, tr, ok, now⟩) := by rw [may_bare (k := 3) (by omega)]; unfold Pk.bare; simp [Bool.and_assoc]
  have HM := Lib.hid hm
  clear hm _hrow hsm
  generalize Pk.may _ = m at HM ⊢
  go_enter Try.func22, Try.ntmps22
  by_cases hl : l.length = 0
  · have dl : ((l.length : Int) == 0) = true := by rw [beq_iff_eq]; omega
    have HM2 := Lib.hid (HM.out.trans (by simp [hl] : _ = Pk.bare ⟨3, a, b, c, l, st, bk, tr, ok, now⟩))
    clear hl HM
    go_wp2_with fail
    refine (rbare_at _ ⟨3, a, b, c, l, st, bk, tr, ok, now⟩ ao cap).mono ?_
    rintro e w2 ⟨rfl, hO2⟩
    go_wp2_with fail
    go_ret
    exact ⟨by rw [HM2.out]; rfl, hA.trans hO2⟩
  · have dl : ((l.length : Int) == 0) = false := by rw [beq_eq_false_iff_ne]; omega
    have HB : RowKit.Hid (m = false) := Lib.hid (HM.out.trans (by simp [hl]))
    clear hl HM
    go_wp2_with fail
    go_ret
    exact ⟨by rw [HB.out]; rfl, hA⟩
set_option maxHeartbeats 1600000 in
theorem rmay5_at (w : World) (a b c : Nat) (l : List Pk.Stp) (ao : Option Addr) (cap : Nat) (st : Nat) (bk : Bool) (tr : Nat) (ok : Bool) (now : Nat) (hsm : Smalls l) (_hrow : RowIn stpK 38 w ao l) :
    Calls Try.prog 22 #[.agg #[.int .i64 5, .int .u64 a, .int .u64 b, .int .u64 c, .slice ao l.length cap, .int .i64 st, .bool bk, .int .i64 tr, .bool ok, .int .u64 now]] w fun e w' => e = .returned (.bool (Pk.may ⟨5, a, b, c, l, st, bk, tr, ok, now⟩)) ∧ Only NoBlock w w' := by
  have hA := (Only.refl NoBlock w).alloc (Obj.cells #[.int .i64 (5 : Nat), .int .u64 a, .int .u64 b, .int .u64 c, .slice ao l.length cap, .int .i64 st, .bool bk, .int .i64 tr, .bool ok, .int .u64 now] 31)
  have hn64 := hsm.1

  have hm : Pk.may ⟨5, a, b, c, l, st, bk, tr, ok, now⟩ = (decide (l.length = 0) && Pk.bare ⟨5, a, b, c, l, st, bk, tr, ok, now⟩) := by rw [may_bare (k := 5) (by omega)]; unfold Pk.bare; simp [Bool.and_assoc]
  have HM := Lib.hid hm
  clear hm _hrow hsm
  generalize Pk.may _ = m at HM ⊢
  go_enter Try.func22, Try.ntmps22
  by_cases hl : l.length = 0
  · have dl : ((l.length : Int) == 0) = true := by rw [beq_iff_eq]; omega
    have HM2 := Lib.hid (HM.out.trans (by simp [hl] : _ = Pk.bare ⟨5, a, b, c, l, st, bk, tr, ok, now⟩))
    clear hl HM
    go_wp2_with fail
    refine (rbare_at _ ⟨5, a, b, c, l, st, bk, tr, ok, now⟩ ao cap).mono ?_
    rintro e w2 ⟨rfl, hO2⟩
    go_wp2_with fail
    go_ret
    exact ⟨by rw [HM2.out]; rfl, hA.trans hO2⟩
  · have dl : ((l.length : Int) == 0) = false := by rw [beq_eq_false_iff_ne]; omega
    have HB : RowKit.Hid (m = false) := Lib.hid (HM.out.trans (by simp [hl]))
    clear hl HM
    go_wp2_with fail
    go_ret
    exact ⟨by rw [HB.out]; rfl, hA⟩
set_option maxHeartbeats 1600000 in
theorem rmay2_at (w : World) (a b c : Nat) (l : List Pk.Stp) (ao : Option Addr) (cap : Nat) (st : Nat) (bk : Bool) (tr : Nat) (ok : Bool) (now : Nat) (hsm : Smalls l) (hrow : RowIn stpK 38 w ao l) :
    Calls Try.prog 22 #[.agg #[.int .i64 2, .int .u64 a, .int .u64 b, .int .u64 c, .slice ao l.length cap, .int .i64 st, .bool bk, .int .i64 tr, .bool ok, .int .u64 now]] w fun e w' => e = .returned (.bool (Pk.may ⟨2, a, b, c, l, st, bk, tr, ok, now⟩)) ∧ Only NoBlock w w' := by
  have hA := (Only.refl NoBlock w).alloc (Obj.cells #[.int .i64 (2 : Nat), .int .u64 a, .int .u64 b, .int .u64 c, .slice ao l.length cap, .int .i64 st, .bool bk, .int .i64 tr, .bool ok, .int .u64 now] 31)
  have hn64 := hsm.1

  have hm : Pk.may ⟨2, a, b, c, l, st, bk, tr, ok, now⟩ = (Pk.okSs l && Pk.bare ⟨2, a, b, c, l, st, bk, tr, ok, now⟩) := by rw [may_two]; unfold Pk.bare; simp [Bool.and_assoc]
  have HM := Lib.hid hm
  clear hm
  generalize Pk.may _ = m at HM ⊢
  have hck := rcheck_at _ ao cap l (hrow.keepsN hA) hsm
  have hBx0 := Blk.made w #[.int .i64 (2 : Nat), .int .u64 a, .int .u64 b, .int .u64 c, .slice ao l.length cap, .int .i64 st, .bool bk, .int .i64 tr, .bool ok, .int .u64 now] 31
  go_enter Try.func22, Try.ntmps22
  go_wp2_with fail
  refine hck.mono ?_
  rintro e w2 ⟨rfl, hO2⟩
  have hO := hA.trans hO2
  have hBx := hBx0.keeps hO2 (fun h => h)
  have c0 := hBx.cell 0
  have c1 := hBx.cell 1
  have c2 := hBx.cell 2
  have c3 := hBx.cell 3
  have c4 := hBx.cell 4
  have c5 := hBx.cell 5
  have c6 := hBx.cell 6
  have c7 := hBx.cell 7
  have c8 := hBx.cell 8
  have c9 := hBx.cell 9
  simp only [List.getElem?_toArray, List.getElem?_cons_succ, List.getElem?_cons_zero] at c0 c1 c2 c3 c4 c5 c6 c7 c8 c9
  clear hrow hsm hck hO2 hA hBx hBx0
  cases hok : Pk.okSs l with
  | false =>
    have HB : RowKit.Hid (m = false) := Lib.hid (HM.out.trans (by simp [hok]))
    rw [checkV_no hok]
    clear hok
    go_wp2_with fail
    go_ret
    exact ⟨by rw [HB.out]; rfl, hO⟩
  | true =>
    have HM2 := Lib.hid (HM.out.trans (by simp [hok] : _ = Pk.bare ⟨2, a, b, c, l, st, bk, tr, ok, now⟩))
    rw [checkV_yes hok]
    clear hok HM
    go_wp2_with fail
    refine (rbare_at _ ⟨2, a, b, c, l, st, bk, tr, ok, now⟩ ao cap).mono ?_
    rintro e w3 ⟨rfl, hO3⟩
    go_wp2_with fail
    go_ret
    exact ⟨by rw [HM2.out]; rfl, hO.trans hO3⟩
set_option maxHeartbeats 1600000 in
theorem rmay4_at (w : World) (a b c : Nat) (l : List Pk.Stp) (ao : Option Addr) (cap : Nat) (st : Nat) (bk : Bool) (tr : Nat) (ok : Bool) (now : Nat) (hsm : Smalls l) (_hrow : RowIn stpK 38 w ao l) :
    Calls Try.prog 22 #[.agg #[.int .i64 4, .int .u64 a, .int .u64 b, .int .u64 c, .slice ao l.length cap, .int .i64 st, .bool bk, .int .i64 tr, .bool ok, .int .u64 now]] w fun e w' => e = .returned (.bool (Pk.may ⟨4, a, b, c, l, st, bk, tr, ok, now⟩)) ∧ Only NoBlock w w' := by
  have hA := (Only.refl NoBlock w).alloc (Obj.cells #[.int .i64 (4 : Nat), .int .u64 a, .int .u64 b, .int .u64 c, .slice ao l.length cap, .int .i64 st, .bool bk, .int .i64 tr, .bool ok, .int .u64 now] 31)
  have hn64 := hsm.1

  have hm := may_four a b c l st bk tr ok now
  have HM := Lib.hid hm
  clear hm
  clear _hrow hsm
  generalize Pk.may _ = m at HM ⊢
  generalize l.length = n at HM hA hn64 ⊢
  go_enter Try.func22, Try.ntmps22
  by_cases hl : n = 0
  · have dhl : ((n : Int) == 0) = true := by simp; omega
    by_cases hs : st < 64
    · have dhs : decide ((st : Int) ≤ 63) = true := by simp; omega
      by_cases ht : tr < 9
      · have dht : decide ((tr : Int) ≤ 8) = true := by simp; omega
        by_cases ha : a = 0
        · have dha : ((a : Int) == 0) = true := by simp; omega
          by_cases hb : b = 0
          · have dhb : ((b : Int) == 0) = true := by simp; omega
            have HB : RowKit.Hid (m = true) := Lib.hid ((HM.out).trans (by simp [hl, hs, ht, ha, hb]))
            clear hl hs ht ha hb
            go_wp2_with fail
            go_ret
            exact ⟨by rw [HB.out]; rfl, hA⟩
          · have dhb : ((b : Int) == 0) = false := by simp; omega
            have HB : RowKit.Hid (m = false) := Lib.hid ((HM.out).trans (by simp [hl, hs, ht, ha, hb]))
            clear hl hs ht ha hb
            go_wp2_with fail
            go_ret
            exact ⟨by rw [HB.out]; rfl, hA⟩
        · have dha : ((a : Int) == 0) = false := by simp; omega
          have HB : RowKit.Hid (m = false) := Lib.hid ((HM.out).trans (by simp [hl, hs, ht, ha]))
          clear hl hs ht ha
          go_wp2_with fail
          go_ret
          exact ⟨by rw [HB.out]; rfl, hA⟩
      · have dht : decide ((tr : Int) ≤ 8) = false := by simp; omega
        have HB : RowKit.Hid (m = false) := Lib.hid ((HM.out).trans (by simp [hl, hs, ht]))
        clear hl hs ht
        go_wp2_with fail
        go_ret
        exact ⟨by rw [HB.out]; rfl, hA⟩
    · have dhs : decide ((st : Int) ≤ 63) = false := by simp; omega
      have HB : RowKit.Hid (m = false) := Lib.hid ((HM.out).trans (by simp [hl, hs]))
      clear hl hs
      go_wp2_with fail
      go_ret
      exact ⟨by rw [HB.out]; rfl, hA⟩
  · have dhl : ((n : Int) == 0) = false := by simp; omega
    have HB : RowKit.Hid (m = false) := Lib.hid ((HM.out).trans (by simp [hl]))
    clear hl
    go_wp2_with fail
    go_ret
    exact ⟨by rw [HB.out]; rfl, hA⟩
set_option maxHeartbeats 1600000 in
theorem rmayE_at (w : World) (k : Nat) (h1 : ¬ k = 1) (h2 : ¬ k = 2) (h3 : ¬ k = 3) (h4 : ¬ k = 4) (h5 : ¬ k = 5) (a b c : Nat) (l : List Pk.Stp) (ao : Option Addr) (cap : Nat) (st : Nat) (bk : Bool) (tr : Nat) (ok : Bool) (now : Nat) (hsm : Smalls l) (_hrow : RowIn stpK 38 w ao l) :
    Calls Try.prog 22 #[.agg #[.int .i64 k, .int .u64 a, .int .u64 b, .int .u64 c, .slice ao l.length cap, .int .i64 st, .bool bk, .int .i64 tr, .bool ok, .int .u64 now]] w fun e w' => e = .returned (.bool (Pk.may ⟨k, a, b, c, l, st, bk, tr, ok, now⟩)) ∧ Only NoBlock w w' := by
  have hA := (Only.refl NoBlock w).alloc (Obj.cells #[.int .i64 k, .int .u64 a, .int .u64 b, .int .u64 c, .slice ao l.length cap, .int .i64 st, .bool bk, .int .i64 tr, .bool ok, .int .u64 now] 31)
  have hn64 := hsm.1
  have HB : RowKit.Hid (Pk.may _ = false) := Lib.hid (may_else h1 h2 h3 h4 h5 a b c l st bk tr ok now)
  have d1 : ((k : Int) == 1) = false := by simp; omega
  have d2 : ((k : Int) == 2) = false := by simp; omega
  have d3 : ((k : Int) == 3) = false := by simp; omega
  have d4 : ((k : Int) == 4) = false := by simp; omega
  have d5 : ((k : Int) == 5) = false := by simp; omega
  clear h1 h2 h3 h4 h5 _hrow hsm
  go_enter Try.func22, Try.ntmps22
  go_wp2_with fail
  go_ret
  exact ⟨by rw [HB.out]; rfl, hA⟩
theorem rmaycmd_at (w : World) (c : Pk.Cmd) (ao : Option Addr) (cap : Nat) (hsm : Smalls c.steps) (hrow : RowIn stpK 38 w ao c.steps) :
    Calls Try.prog 22 #[cmdV c ao cap] w fun e w' => e = .returned (.bool (Pk.may c)) ∧ Only NoBlock w w' := by
  obtain ⟨k, a, b, s, l, st, bk, tr, ok, now⟩ := c
  by_cases h1 : k = 1
  · subst h1; exact rmay1_at w a b s l ao cap st bk tr ok now hsm hrow
  by_cases h2 : k = 2
  · subst h2; exact rmay2_at w a b s l ao cap st bk tr ok now hsm hrow
  by_cases h3 : k = 3
  · subst h3; exact rmay3_at w a b s l ao cap st bk tr ok now hsm hrow
  by_cases h4 : k = 4
  · subst h4; exact rmay4_at w a b s l ao cap st bk tr ok now hsm hrow
  by_cases h5 : k = 5
  · subst h5; exact rmay5_at w a b s l ao cap st bk tr ok now hsm hrow
  exact rmayE_at w k h1 h2 h3 h4 h5 a b s l ao cap st bk tr ok now hsm hrow
end Go.Proofs.Ytogeeeigfhmpmaa
