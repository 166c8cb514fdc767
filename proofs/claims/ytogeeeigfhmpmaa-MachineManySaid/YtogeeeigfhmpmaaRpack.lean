/- The document's numbers and texts, and its reader: what they answer is what the plain lists say. -/
import Derived.Test.YtogeeeigfhmpmaaPackR
namespace Go.Proofs.Ytogeeeigfhmpmaa
open Go.RowKit
set_option maxRecDepth 100000

theorem byte_in (w : World) (c : Int) (h0 : 0 ≤ c) (h1 : c ≤ 255) (t : TypeId) : BytesIn (w.alloc (.cells #[.int .u8 c] t)) (some ⟨w.heap.size, 0, none⟩) [c] :=
  ⟨by simpa using ⟨h0, h1⟩, by unfold maxLen; simp, fun i hi => ⟨w.heap.size, 0, rfl, by
    have : i = 0 := by simp at hi; omega
    subst this
    exact cell_byte w c t _ rfl⟩⟩

set_option maxHeartbeats 2000000 in
theorem dnum_at (w : World) (x : Nat) (hx : x < 18446744073709551616) :
    Calls Try.prog 54 #[.int .u64 x] w fun e w' => e = .returned (.string (textOf (Pk.num x))) ∧ Only NoBlock w w' := by
  have h8 := Pk.size_le8 hx
  go_enter Try.func54, Try.ntmps54
  go_wp2_with fail
  go_loopw [0, 3, 4] (fun v0 v3 v4 wr => ∃ (k y : Nat), v0 = .int .u64 y ∧ v3 = .string (textOf (Pk.be k x)) ∧ v4 = .int .i64 k ∧ y < 18446744073709551616 ∧ k + Pk.size y = Pk.size x ∧ RowKit.Hid (y = x / 256 ^ k) ∧ Only NoBlock w wr) (fun v0 _ _ _ => (intOf v0).toNat)
  case atStart => exact ⟨0, x, rfl, rfl, rfl, hx, by omega, Lib.hid (by simp), Only.refl _ _⟩
  case round =>
    obtain ⟨k, y, rfl, rfl, rfl, hy, hk, HY, ho⟩ := hrel
    by_cases h0 : 0 < y
    · have hsp := Pk.size_pos h0
      have hbe : Pk.be (k + 1) x = ((y % 256 : Nat) : Int) :: Pk.be k x := by rw [Pk.be_snoc_high, HY.out]
      have HB := Lib.hid hbe
      clear hbe
      have hm0 : (0 : Int) ≤ (y : Int) % 256 := by omega
      have hm1 : (y : Int) % 256 ≤ 255 := by omega
      have hln : (textOf (Pk.be k x)).size ≤ 8 := by rw [textOf_size, Pk.be_length]; omega
      have hl1 : (textOf [(y : Int) % 256]).size ≤ 1 := by rw [textOf_size]; simp
      go_wp2_with (first
        | (refine wpList_conv_text _ rfl _ _ rfl Cv.u_string Cv.u_byte (some ⟨wr.heap.size, 0, none⟩) 1 1 [(y : Int) % 256] ?_ rfl (byte_in _ _ hm0 hm1 _) ?_; (rfl)))
      have e : ((y : Int) / 256) = ((y / 256 : Nat) : Int) := by omega
      refine ⟨⟨k + 1, y / 256, by rw [e], ?_, by go_num, by omega, by omega, Lib.hid ?_, ho.alloc _⟩, by simp [intOf]; omega⟩
      · rw [HB.out, ← textOf_append]
        have e2 : ((y : Int) % 256) = ((y % 256 : Nat) : Int) := by omega
        rw [e2]
        rfl
      · rw [HY.out, Nat.pow_succ, Nat.div_div_eq_div_mul]
    · obtain rfl : y = 0 := by omega
      have hz := Pk.size_zero
      have hk' : k = Pk.size x := by omega
      have hn : Pk.num x = (k : Int) :: Pk.be k x := by unfold Pk.num; rw [hk']
      have HN := Lib.hid hn
      have hk8 : k ≤ 8 := by omega
      clear hn hk' hz hk h0 h8
      have hln : (textOf (Pk.be k x)).size ≤ 8 := by rw [textOf_size, Pk.be_length]; omega
      have hl1 : (textOf [(k : Int)]).size ≤ 1 := by rw [textOf_size]; simp
      go_wp2_with (first
        | (refine wpList_conv_text _ rfl _ _ rfl Cv.u_string Cv.u_byte (some ⟨wr.heap.size, 0, none⟩) 1 1 [(k : Int)] ?_ rfl (byte_in _ _ (by omega) (by omega) _) ?_; (rfl)))
      go_ret
      exact ⟨by rw [HN.out]; exact congrArg (fun t => Ending.returned (Value.string t)) (textOf_append [(k : Int)] (Pk.be k x)).symm, ho.alloc _⟩

theorem dtext_at (w : World) (t : ByteArray) (ht : t.size ≤ 1000000000000) :
    Calls Try.prog 55 #[.string t] w fun e w' => e = .returned (.string (textOf (Pk.text (nums t)))) ∧ Only NoBlock w w' := by
  have hn : textOf (Pk.text (nums t)) = textOf (Pk.num t.size) ++ t := by unfold Pk.text; rw [textOf_append, textOf_nums, nums_length]
  have HN := Lib.hid hn
  clear hn
  have h8 := Pk.size_le8 (x := t.size) (by omega)
  have hsz : (textOf (Pk.num t.size)).size ≤ 9 := by rw [textOf_size, Pk.num_length]; omega
  go_enter Try.func55, Try.ntmps55
  go_wp2_with fail
  refine (dnum_at w t.size (by omega)).mono ?_
  rintro e w1 ⟨rfl, ho⟩
  go_wp2_with fail
  go_ret
  exact ⟨by rw [HN.out]; rfl, ho⟩

/-- block p is the document's reader -/
def DReaderAt (w : World) (p : Nat) (r : Pk.RD) : Prop := Blk w p #[.string (textOf r.s), .bool r.bad] 91 ∧ (∀ c ∈ r.s, 0 ≤ c ∧ c ≤ 255) ∧ r.s.length ≤ 1000000000000

theorem dfail_at (w : World) (p : Nat) (s : ByteArray) (b : Bool) (h : Blk w p #[.string s, .bool b] 91) :
    Calls Try.prog 69 #[.pointer (some ⟨p, 0, none⟩)] w fun e w' => e = .returned (.tuple #[]) ∧ DReaderAt w' p ⟨[], true⟩ ∧ Only (fun k => k = p) w w' := by
  have c0 := h.cell 0
  have c1 := h.cell 1
  have f0 := h.free 0
  have f1 := h.free 1
  simp at c0 c1
  go_enter Try.func69, Try.ntmps69
  go_wp2_with fail
  go_end0
  refine ⟨rfl, ⟨?_, by simp, by simp⟩, ?_⟩
  · exact (h.setCell 0 _).setCell 1 _
  · exact ((Only.refl (fun k => k = p) w).setCell (p := ⟨p, 0, none⟩) (fun _ => rfl) _).setCell (p := ⟨p, 1, none⟩) (fun _ => rfl) _


set_option maxHeartbeats 2000000 in
theorem dnumr_at (w : World) (p : Nat) (r : Pk.RD) (h : DReaderAt w p r) :
    Calls Try.prog 36 #[.pointer (some ⟨p, 0, none⟩)] w fun e w' => e = .returned (.int .u64 (Pk.numV r.s : Nat)) ∧ DReaderAt w' p (Pk.numR r) ∧ Only (fun k => k = p) w w' := by
  obtain ⟨hb, hw, hl⟩ := h
  obtain ⟨s, bad⟩ := r
  simp only at hb hw hl ⊢
  have c0 := hb.cell 0
  have c1 := hb.cell 1
  have f0 := hb.free 0
  simp at c0 c1
  cases s with
  | nil =>
    have HV := Lib.hid (Pk.numV_no (s := []) rfl)
    have HR := Lib.hid (Pk.numR_no (r := ⟨[], bad⟩) rfl)
    rw [textOf_nil] at c0 hb
    go_enter Try.func36, Try.ntmps36
    go_wp2_with fail
    refine (dfail_at w p _ _ hb).mono ?_
    rintro e w1 ⟨rfl, hR, hO⟩
    go_wp2_with fail
    go_ret
    exact ⟨by rw [HV.out]; rfl, by rw [HR.out]; exact hR, hO⟩
  | cons n t =>
    have hsz : (textOf (n :: t)).size = t.length + 1 := by rw [textOf_size]; rfl
    have hg0 := textOf_get hw (i := 0) (by omega)
    rw [List.getD_cons_zero] at hg0
    obtain ⟨hn0, hn1⟩ := hw n (by simp)
    have hl1 : t.length ≤ 1000000000000 := by rw [List.length_cons] at hl; omega
    have hwt : wrap64 (t.length : Int) = (t.length : Int) := by unfold wrap64; omega
    have hne : ((textOf (n :: t)).toList == []) = false := by
      have : (textOf (n :: t)).toList ≠ (⟨#[]⟩ : ByteArray).toList := Pk.ba_list (by intro e; have := congrArg ByteArray.size e; have h0 : (⟨#[]⟩ : ByteArray).size = 0 := rfl; omega)
      simpa using this
    go_enter Try.func36, Try.ntmps36
    go_upto_region 4 with fail
    clear hg0 hne
    by_cases h8 : 8 < n
    · have hno : Pk.okNum (n :: t) = false := by unfold Pk.okNum; simp [h8]
      have hd8 : decide ((8 : Int) < n) = true := by simpa using h8
      clear h8
      have HV := Lib.hid (Pk.numV_no hno)
      have HR := Lib.hid (Pk.numR_no (r := ⟨n :: t, bad⟩) hno)
      clear hno
      go_wp2_with fail
      refine (dfail_at w p _ _ hb).mono ?_
      rintro e w1 ⟨rfl, hR, hO⟩
      go_wp2_with fail
      go_ret
      exact ⟨by rw [HV.out]; rfl, by rw [HR.out]; exact hR, hO⟩
    have hd8 : decide ((8 : Int) < n) = false := by simpa using h8
    by_cases hlt : (t.length : Int) < n
    · have hno : Pk.okNum (n :: t) = false := by unfold Pk.okNum; simp [hlt]
      have hd9 : decide ((t.length : Int) < n) = true := by simpa using hlt
      clear hlt h8
      have HV := Lib.hid (Pk.numV_no hno)
      have HR := Lib.hid (Pk.numR_no (r := ⟨n :: t, bad⟩) hno)
      clear hno
      go_wp2_with fail
      refine (dfail_at w p _ _ hb).mono ?_
      rintro e w1 ⟨rfl, hR, hO⟩
      go_wp2_with fail
      go_ret
      exact ⟨by rw [HV.out]; rfl, by rw [HR.out]; exact hR, hO⟩
    have hd9 : decide ((t.length : Int) < n) = false := by simpa using hlt
    obtain ⟨m, rfl⟩ : ∃ m : Nat, n = (m : Int) := ⟨n.toNat, by omega⟩
    have hm8 : m ≤ 8 := by omega
    have hmt : m ≤ t.length := by omega
    clear h8 hlt
    by_cases hz : 0 < m ∧ t.getD 0 0 = 0
    · have hno : Pk.okNum ((m : Int) :: t) = false := by
        unfold Pk.okNum
        have h1 := hz.1
        have h2 := hz.2
        simp only [Bool.not_eq_false', Bool.or_eq_true, Bool.and_eq_true, decide_eq_true_eq]
        exact .inr ⟨by omega, h2⟩
      have hs1 : 1 < (textOf ((m : Int) :: t)).size := by omega
      have hg1 := textOf_get hw hs1
      rw [List.getD_cons_succ, hz.2] at hg1
      have hm0 := hz.1
      have hd0 : decide ((0 : Int) < (m : Int)) = true := by simpa using hm0
      clear hz
      have HV := Lib.hid (Pk.numV_no hno)
      have HR := Lib.hid (Pk.numR_no (r := ⟨(m : Int) :: t, bad⟩) hno)
      clear hno
      go_wp2_with fail
      refine (dfail_at w p _ _ hb).mono ?_
      rintro e w1 ⟨rfl, hR, hO⟩
      go_wp2_with fail
      go_ret
      exact ⟨by rw [HV.out]; rfl, by rw [HR.out]; exact hR, hO⟩
    have hok : Pk.okNum ((m : Int) :: t) = true := by
      unfold Pk.okNum
      simp only [Bool.not_eq_true', Bool.or_eq_false_iff, Bool.and_eq_false_iff, decide_eq_false_iff_not]
      refine ⟨⟨by omega, by omega⟩, ?_⟩
      by_cases h : 0 < m
      · exact .inr (fun e => hz ⟨h, e⟩)
      · exact .inl (by omega)
    have hV : Pk.numV ((m : Int) :: t) = Pk.val (t.take m) := by unfold Pk.numV; rw [if_pos hok]; rfl
    have hR : Pk.numR ⟨(m : Int) :: t, bad⟩ = ⟨t.drop m, bad⟩ := by unfold Pk.numR; simp only; rw [if_pos hok]; rfl
    have HV := Lib.hid hV
    have HR := Lib.hid hR
    clear hok hV hR
    by_cases hm0 : 0 < m
    · have hs1 : 1 < (textOf ((m : Int) :: t)).size := by omega
      have hg1 := textOf_get hw hs1
      rw [List.getD_cons_succ] at hg1
      have hzz : (t.getD 0 0 == 0) = false := by
        have : t.getD 0 0 ≠ 0 := fun e => hz ⟨hm0, e⟩
        simpa using this
      generalize t.getD 0 0 = c at hg1 hzz
      have hd0 : decide ((0 : Int) < (m : Int)) = true := by simpa using hm0
      go_upto_region 9 with fail
      clear hg1 hzz hz hm0 hd0 hd8 hd9
      go_loop [4, 5] (fun v4 v5 => ∃ j : Nat, j ≤ m ∧ v5 = .int .i64 ((j : Int) + 1) ∧ v4 = .int .u64 (Pk.val (t.take j) : Nat)) (fun _ v5 => m + 1 - (intOf v5).toNat)
      case atStart => exact ⟨0, by omega, rfl, rfl⟩
      case round =>
        obtain ⟨j, hj, rfl, rfl⟩ := hrel
        by_cases hjm : j < m
        · have hjs : j + 1 < (textOf ((m : Int) :: t)).size := by omega
          have hgj := textOf_get hw hjs
          rw [List.getD_cons_succ] at hgj
          have htk : Pk.val (t.take (j + 1)) = 256 * Pk.val (t.take j) + (t.getD j 0).toNat := by
            rw [List.take_add_one, List.getElem?_eq_getElem (by omega), List.getD_eq_getElem?_getD, List.getElem?_eq_getElem (by omega)]
            exact Pk.val_snoc _ _
          have hcb := hw (t.getD j 0) (by
            rw [List.getD_eq_getElem?_getD, List.getElem?_eq_getElem (by omega)]
            exact List.mem_cons_of_mem _ (List.getElem_mem _))
          have hvl := Pk.val_lt (t.take j) (fun c hc => hw c (List.mem_cons_of_mem _ (List.mem_of_mem_take hc)))
          have hvb : Pk.val (t.take j) < 72057594037927936 := by
            refine Nat.lt_of_lt_of_le hvl ?_
            have : (t.take j).length ≤ 7 := by rw [List.length_take]; omega
            exact Nat.le_trans (Nat.pow_le_pow_right (by decide) this) (by decide)
          have HT := Lib.hid htk
          clear htk hvl
          generalize t.getD j 0 = c at hgj hcb HT
          generalize Pk.val (t.take j) = x at hvb HT ⊢
          obtain ⟨hc0, hc1⟩ := hcb
          go_wp2_with fail
          exact ⟨⟨j + 1, by omega, by congr 1, by rw [HT.out]; congr 1; omega⟩, by simp [intOf]; omega⟩
        · obtain rfl : j = m := by omega
          have hdl : (t.drop j).length = t.length - j := List.length_drop
          have hex : (textOf ((j : Int) :: t)).extract (j + 1) (t.length + 1) = textOf (t.drop j) := by
            rw [textOf_extract hw, List.drop_succ_cons, List.take_of_length_le (by omega)]
          have HEX := Lib.hid hex
          clear hex hdl
          go_wp2_with fail
          rw [HEX.out]
          go_ret
          refine ⟨by rw [HV.out]; rfl, by rw [HR.out]; exact ⟨hb.setCell 0 _, fun c hc => hw c (List.mem_cons_of_mem _ (List.mem_of_mem_drop hc)), by simp only [List.length_drop]; omega⟩, (Only.refl (fun k => k = p) w).setCell (p := ⟨p, 0, none⟩) (fun _ => rfl) _⟩
    · have hd0 : decide ((0 : Int) < (m : Int)) = false := by simp; omega
      go_upto_region 9 with fail
      clear hz hm0 hd0 hd8 hd9
      go_loop [4, 5] (fun v4 v5 => ∃ j : Nat, j ≤ m ∧ v5 = .int .i64 ((j : Int) + 1) ∧ v4 = .int .u64 (Pk.val (t.take j) : Nat)) (fun _ v5 => m + 1 - (intOf v5).toNat)
      case atStart => exact ⟨0, by omega, rfl, rfl⟩
      case round =>
        obtain ⟨j, hj, rfl, rfl⟩ := hrel
        by_cases hjm : j < m
        · have hjs : j + 1 < (textOf ((m : Int) :: t)).size := by omega
          have hgj := textOf_get hw hjs
          rw [List.getD_cons_succ] at hgj
          have htk : Pk.val (t.take (j + 1)) = 256 * Pk.val (t.take j) + (t.getD j 0).toNat := by
            rw [List.take_add_one, List.getElem?_eq_getElem (by omega), List.getD_eq_getElem?_getD, List.getElem?_eq_getElem (by omega)]
            exact Pk.val_snoc _ _
          have hcb := hw (t.getD j 0) (by
            rw [List.getD_eq_getElem?_getD, List.getElem?_eq_getElem (by omega)]
            exact List.mem_cons_of_mem _ (List.getElem_mem _))
          have hvl := Pk.val_lt (t.take j) (fun c hc => hw c (List.mem_cons_of_mem _ (List.mem_of_mem_take hc)))
          have hvb : Pk.val (t.take j) < 72057594037927936 := by
            refine Nat.lt_of_lt_of_le hvl ?_
            have : (t.take j).length ≤ 7 := by rw [List.length_take]; omega
            exact Nat.le_trans (Nat.pow_le_pow_right (by decide) this) (by decide)
          have HT := Lib.hid htk
          clear htk hvl
          generalize t.getD j 0 = c at hgj hcb HT
          generalize Pk.val (t.take j) = x at hvb HT ⊢
          obtain ⟨hc0, hc1⟩ := hcb
          go_wp2_with fail
          exact ⟨⟨j + 1, by omega, by congr 1, by rw [HT.out]; congr 1; omega⟩, by simp [intOf]; omega⟩
        · obtain rfl : j = m := by omega
          have hdl : (t.drop j).length = t.length - j := List.length_drop
          have hex : (textOf ((j : Int) :: t)).extract (j + 1) (t.length + 1) = textOf (t.drop j) := by
            rw [textOf_extract hw, List.drop_succ_cons, List.take_of_length_le (by omega)]
          have HEX := Lib.hid hex
          clear hex hdl
          go_wp2_with fail
          rw [HEX.out]
          go_ret
          refine ⟨by rw [HV.out]; rfl, by rw [HR.out]; exact ⟨hb.setCell 0 _, fun c hc => hw c (List.mem_cons_of_mem _ (List.mem_of_mem_drop hc)), by simp only [List.length_drop]; omega⟩, (Only.refl (fun k => k = p) w).setCell (p := ⟨p, 0, none⟩) (fun _ => rfl) _⟩



theorem dup_at (w : World) (p : Nat) (r : Pk.RD) (h : DReaderAt w p r) (L : Nat) (hL : L ≤ 9223372036854775807) :
    Calls Try.prog 35 #[.pointer (some ⟨p, 0, none⟩), .int .i64 (L : Int)] w fun e w' => e = .returned (.int .i64 ((r.up L).1 : Nat)) ∧ DReaderAt w' p (r.up L).2 ∧ Only (fun k => k = p) w w' := by
  have hlt := Pk.numV_lt h.2.1
  go_enter Try.func35, Try.ntmps35
  go_wp2_with fail
  refine (dnumr_at w p r h).mono ?_
  rintro e w1 ⟨rfl, hR, hO⟩
  by_cases hle : Pk.numV r.s ≤ L
  · have hu : r.up L = (Pk.numV r.s, Pk.numR r) := by unfold Pk.RD.up; rw [if_pos hle]
    have HU := Lib.hid hu
    clear hu
    generalize Pk.numV r.s = x at hlt hle HU ⊢
    have hd : decide ((L : Int) < (x : Int)) = false := by simp; omega
    have hl0 : ¬ (L : Int) < 0 := by omega
    go_wp2_with fail
    go_ret
    exact ⟨by rw [HU.out]; rfl, by rw [HU.out]; exact hR, hO⟩
  · have hu : r.up L = (0, ⟨[], true⟩) := by unfold Pk.RD.up; rw [if_neg hle]
    have HU := Lib.hid hu
    clear hu
    generalize Pk.numV r.s = x at hlt hle HU ⊢
    have hd : decide ((L : Int) < (x : Int)) = true := by simp; omega
    have hl0 : ¬ (L : Int) < 0 := by omega
    go_wp2_with fail
    refine (dfail_at w1 p _ _ hR.1).mono ?_
    rintro e w2 ⟨rfl, hR2, hO2⟩
    go_wp2_with fail
    go_ret
    exact ⟨by rw [HU.out]; rfl, by rw [HU.out]; exact hR2, hO.trans hO2⟩

theorem dtextr_at (w : World) (p : Nat) (r : Pk.RD) (h : DReaderAt w p r) (L : Nat) (hL : L ≤ 9223372036854775807) :
    Calls Try.prog 70 #[.pointer (some ⟨p, 0, none⟩), .int .i64 (L : Int)] w fun e w' => e = .returned (.string (textOf (r.text L).1)) ∧ DReaderAt w' p (r.text L).2 ∧ Only (fun k => k = p) w w' := by
  go_enter Try.func70, Try.ntmps70
  go_wp2_with fail
  refine (dup_at w p r h L hL).mono ?_
  rintro e w1 ⟨rfl, hR, hO⟩
  have ht : r.text L = if (r.up L).1 ≤ (r.up L).2.s.length then ((r.up L).2.s.take (r.up L).1, ⟨(r.up L).2.s.drop (r.up L).1, (r.up L).2.bad⟩) else ([], ⟨[], true⟩) := rfl
  have HT := Lib.hid ht
  clear ht
  generalize (r.up L).1 = n at HT ⊢
  generalize (r.up L).2 = q at HT hR
  obtain ⟨s, bad⟩ := q
  obtain ⟨hb, hw, hl⟩ := hR
  simp only at hb hw hl HT
  have c0 := hb.cell 0
  have f0 := hb.free 0
  simp at c0
  have hsz : (textOf s).size = s.length := textOf_size s
  by_cases hle : n ≤ s.length
  · have ht := HT.out
    rw [if_pos hle] at ht
    have HT2 := Lib.hid ht
    have hd : decide ((s.length : Int) < (n : Int)) = false := by simp; omega
    have h1 : (textOf s).extract 0 n = textOf (s.take n) := by rw [textOf_extract hw]; rfl
    have h2 : (textOf s).extract n s.length = textOf (s.drop n) := by rw [textOf_extract hw, List.take_of_length_le (by rw [List.length_drop]; omega)]
    have H1 := Lib.hid h1
    have H2 := Lib.hid h2
    clear ht HT h1 h2
    go_wp2_with fail
    rw [H1.out, H2.out]
    go_ret
    refine ⟨by rw [HT2.out]; rfl, by rw [HT2.out]; exact ⟨hb.setCell 0 _, fun c hc => hw c (List.mem_of_mem_drop hc), by simp only [List.length_drop]; omega⟩, hO.setCell (p := ⟨p, 0, none⟩) (fun _ => rfl) _⟩
  · have ht := HT.out
    rw [if_neg hle] at ht
    have HT2 := Lib.hid ht
    have hd : decide ((s.length : Int) < (n : Int)) = true := by simp; omega
    clear ht HT
    go_wp2_with fail
    refine (dfail_at w1 p _ _ hb).mono ?_
    rintro e w2 ⟨rfl, hR2, hO2⟩
    go_wp2_with fail
    go_ret
    exact ⟨by rw [HT2.out]; rfl, by rw [HT2.out]; exact hR2, hO.trans hO2⟩



end Go.Proofs.Ytogeeeigfhmpmaa
