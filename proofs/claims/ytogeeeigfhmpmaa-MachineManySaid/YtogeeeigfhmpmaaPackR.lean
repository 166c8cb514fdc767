/- Reading on: limits, texts, what is left; what the program's reader answers is what the plain lists say. -/
import Derived.Test.YtogeeeigfhmpmaaPack
namespace Go.Proofs.Ytogeeeigfhmpmaa
open Go.RowKit
set_option maxRecDepth 100000

theorem rfrom_at (w : World) (s : ByteArray) (hs : s.size ≤ 1000000000000) :
    Calls Try.prog 46 #[.string s] w fun e w' => e = .returned (.pointer (some ⟨w.heap.size, 0, none⟩)) ∧ ReaderAt w' w.heap.size ⟨nums s, false⟩ ∧ Only NoBlock w w' := by
  go_enter Try.func46, Try.ntmps46
  go_wp2_with fail
  go_ret
  refine ⟨rfl, ⟨?_, nums_byte s, by rw [nums_length]; exact hs⟩, (Only.refl _ _).alloc _⟩
  rw [textOf_nums]
  exact Blk.made w _ _

theorem rup_at (w : World) (p : Nat) (r : Pk.RD) (h : ReaderAt w p r) (L : Nat) (hL : L ≤ 9223372036854775807) :
    Calls Try.prog 48 #[.pointer (some ⟨p, 0, none⟩), .int .i64 (L : Int)] w fun e w' => e = .returned (.int .i64 ((r.up L).1 : Nat)) ∧ ReaderAt w' p (r.up L).2 ∧ Only (fun k => k = p) w w' := by
  have hlt := Pk.numV_lt h.2.1
  go_enter Try.func48, Try.ntmps48
  go_wp2_with fail
  refine (rnum_at w p r h).mono ?_
  rintro e w1 ⟨rfl, hR, hO⟩
  by_cases hle : Pk.numV r.s ≤ L
  · have hu : r.up L = (Pk.numV r.s, Pk.numR r) := by unfold Pk.RD.up; rw [if_pos hle]
    have HU := Lib.hid hu
    clear hu
    generalize Pk.numV r.s = x at hlt hle HU ⊢
    have hd : decide ((L : Int) < (x : Int)) = false := by simp; omega
    have hl0 : ¬ (L : Int) < 0 := by omega
    go_wp2_with fail
    go_ret
    exact ⟨by rw [HU.out]; rfl, by rw [HU.out]; exact hR, hO⟩
  · have hu : r.up L = (0, ⟨[], true⟩) := by unfold Pk.RD.up; rw [if_neg hle]
    have HU := Lib.hid hu
    clear hu
    generalize Pk.numV r.s = x at hlt hle HU ⊢
    have hd : decide ((L : Int) < (x : Int)) = true := by simp; omega
    have hl0 : ¬ (L : Int) < 0 := by omega
    go_wp2_with fail
    refine (rfail_at w1 p _ _ hR.1).mono ?_
    rintro e w2 ⟨rfl, hR2, hO2⟩
    go_wp2_with fail
    go_ret
    exact ⟨by rw [HU.out]; rfl, by rw [HU.out]; exact hR2, hO.trans hO2⟩

theorem rtext_at (w : World) (p : Nat) (r : Pk.RD) (h : ReaderAt w p r) (L : Nat) (hL : L ≤ 9223372036854775807) :
    Calls Try.prog 76 #[.pointer (some ⟨p, 0, none⟩), .int .i64 (L : Int)] w fun e w' => e = .returned (.string (textOf (r.text L).1)) ∧ ReaderAt w' p (r.text L).2 ∧ Only (fun k => k = p) w w' := by
  go_enter Try.func76, Try.ntmps76
  go_wp2_with fail
  refine (rup_at w p r h L hL).mono ?_
  rintro e w1 ⟨rfl, hR, hO⟩
  have ht : r.text L = if (r.up L).1 ≤ (r.up L).2.s.length then ((r.up L).2.s.take (r.up L).1, ⟨(r.up L).2.s.drop (r.up L).1, (r.up L).2.bad⟩) else ([], ⟨[], true⟩) := rfl
  have HT := Lib.hid ht
  clear ht
  generalize (r.up L).1 = n at HT ⊢
  generalize (r.up L).2 = q at HT hR
  obtain ⟨s, bad⟩ := q
  obtain ⟨hb, hw, hl⟩ := hR
  simp only at hb hw hl HT
  have c0 := hb.cell 0
  have f0 := hb.free 0
  simp at c0
  have hsz : (textOf s).size = s.length := textOf_size s
  by_cases hle : n ≤ s.length
  · have ht := HT.out
    rw [if_pos hle] at ht
    have HT2 := Lib.hid ht
    have hd : decide ((s.length : Int) < (n : Int)) = false := by simp; omega
    have h1 : (textOf s).extract 0 n = textOf (s.take n) := by rw [textOf_extract hw]; rfl
    have h2 : (textOf s).extract n s.length = textOf (s.drop n) := by rw [textOf_extract hw, List.take_of_length_le (by rw [List.length_drop]; omega)]
    have H1 := Lib.hid h1
    have H2 := Lib.hid h2
    clear ht HT h1 h2
    go_wp2_with fail
    rw [H1.out, H2.out]
    go_ret
    refine ⟨by rw [HT2.out]; rfl, by rw [HT2.out]; exact ⟨hb.setCell 0 _, fun c hc => hw c (List.mem_of_mem_drop hc), by simp only [List.length_drop]; omega⟩, hO.setCell (p := ⟨p, 0, none⟩) (fun _ => rfl) _⟩
  · have ht := HT.out
    rw [if_neg hle] at ht
    have HT2 := Lib.hid ht
    have hd : decide ((s.length : Int) < (n : Int)) = true := by simp; omega
    clear ht HT
    go_wp2_with fail
    refine (rfail_at w1 p _ _ hb).mono ?_
    rintro e w2 ⟨rfl, hR2, hO2⟩
    go_wp2_with fail
    go_ret
    exact ⟨by rw [HT2.out]; rfl, by rw [HT2.out]; exact hR2, hO.trans hO2⟩

theorem rleft_at (w : World) (p : Nat) (r : Pk.RD) (h : ReaderAt w p r) :
    Calls Try.prog 73 #[.pointer (some ⟨p, 0, none⟩)] w fun e w' => e = .returned (.tuple #[.int .i64 r.s.length, .bool (!r.bad)]) ∧ ∃ q, w' = w.drewN q := by
  obtain ⟨hb, hw, hl⟩ := h
  have c0 := hb.cell 0
  have c1 := hb.cell 1
  simp at c0 c1
  have hsz : (textOf r.s).size = r.s.length := textOf_size _
  go_enter Try.func73, Try.ntmps73
  go_wp2_with fail
  go_quiet (fail)
  go_wp2_with fail
  go_ret2
  exact ⟨rfl, _, rfl⟩

theorem rdone_at (w : World) (p : Nat) (r : Pk.RD) (h : ReaderAt w p r) :
    Calls Try.prog 51 #[.pointer (some ⟨p, 0, none⟩)] w fun e w' => e = .returned (.bool r.done) ∧ ∃ q, w' = w.drewN q := by
  have hl := h.2.2
  go_enter Try.func51, Try.ntmps51
  go_wp2_with fail
  refine (rleft_at w p r h).mono ?_
  rintro e w1 ⟨rfl, q, rfl⟩
  obtain ⟨s, bad⟩ := r
  simp only at hl ⊢
  cases s with
  | nil =>
    go_wp2_with fail
    go_ret
    exact ⟨rfl, _, rfl⟩
  | cons c t =>
    have hd : (((c :: t).length : Int) == 0) = false := by simp; omega
    generalize hn : (c :: t).length = n at hd hl ⊢
    clear hn
    go_wp2_with fail
    go_ret
    exact ⟨rfl, _, rfl⟩

theorem rbool_at (w : World) (p : Nat) (r : Pk.RD) (h : ReaderAt w p r) :
    Calls Try.prog 57 #[.pointer (some ⟨p, 0, none⟩)] w fun e w' => e = .returned (.bool (decide ((r.up 1).1 = 1))) ∧ ReaderAt w' p (r.up 1).2 ∧ Only (fun k => k = p) w w' := by
  go_enter Try.func57, Try.ntmps57
  go_wp2_with fail
  refine (rup_at w p r h 1 (by omega)).mono ?_
  rintro e w1 ⟨rfl, hR, hO⟩
  obtain ⟨n, hn⟩ : ∃ n, (r.up 1).1 = n := ⟨_, rfl⟩
  rw [hn]
  have HN := Lib.hid hn
  clear hn
  have hd : ((n : Int) == 1) = decide (n = 1) := by rw [Bool.eq_iff_iff]; simp; omega
  go_wp2_with fail
  go_ret
  exact ⟨by rw [HN.out]; first | rfl | (rw [← hd]; rfl), hR, hO⟩

end Go.Proofs.Ytogeeeigfhmpmaa
