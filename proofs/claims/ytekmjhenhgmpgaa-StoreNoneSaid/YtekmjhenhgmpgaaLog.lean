/- The program's log: opening, appending, laying anew are what the plain data say. -/
import Derived.Test.YtekmjhenhgmpgaaLogM
import Derived.Test.YtekmjhenhgmpgaaScan
import Derived.Test.YtekmjhenhgmpgaaDiskE
import Derived.Deep.CutBlock
namespace Go.Proofs.Ytekmjhenhgmpgaa
open Go.RowKit

/-- block g is a log of file n of the disk at d -/
def LogAt (w : World) (g d : Nat) (n : Int) : Prop := Blk w g #[.pointer (some ⟨d, 0, none⟩), .int .i64 n] 122

theorem replace_as {w : World} {d mb : Nat} {M : DM} {n : Int} {s : ByteArray} (h : DiskAt w d mb M) (hw : (Lit.int .i64 n).wf = true) (hs : s.size ≤ 9223372036854775807) {k : Int} {M' : DM} (hk : M.replaceE n s = k) (hM : M.replace n s = M') :
    Calls Try.prog 12 #[.pointer (some ⟨d, 0, none⟩), .int .i64 n, .string s] w fun e w' => e = .returned (.int .i64 k) ∧ DiskAt w' d mb M' ∧ Only (fun k => k = d ∨ k = mb) w w' := by
  subst hk; subst hM; exact replace_at w d mb M n s h hw hs
theorem append_as' {w : World} {d mb : Nat} {M : DM} {n : Int} {s : ByteArray} (h : DiskAt w d mb M) (hs : s.size ≤ 9223372036854775807) {k : Int} {M' : DM} (hk : M.appendE n s = k) (hM : M.append n s = M') :
    Calls Try.prog 76 #[.pointer (some ⟨d, 0, none⟩), .int .i64 n, .string s] w fun e w' => e = .returned (.int .i64 k) ∧ DiskAt w' d mb M' ∧ Only (fun k => k = d ∨ k = mb) w w' := by
  subst hk; subst hM; exact append_at w d mb M n s h hs
theorem sync_as' {w : World} {d mb : Nat} {M : DM} {n : Int} (h : DiskAt w d mb M) (hw : (Lit.int .i64 n).wf = true) {k : Int} {M' : DM} (hk : M.syncE n = k) (hM : M.sync n = M') :
    Calls Try.prog 61 #[.pointer (some ⟨d, 0, none⟩), .int .i64 n] w fun e w' => e = .returned (.int .i64 k) ∧ DiskAt w' d mb M' ∧ Only (fun k => k = d ∨ k = mb) w w' := by
  subst hk; subst hM; exact sync_at w d mb M n h hw
theorem read_as' {w : World} {d mb : Nat} {M : DM} {n : Int} (h : DiskAt w d mb M) (hw : (Lit.int .i64 n).wf = true) {k : Int} {s : ByteArray} (hk : M.readE n = k) (hM : M.read n = s) :
    Calls Try.prog 20 #[.pointer (some ⟨d, 0, none⟩), .int .i64 n] w fun e w' => e = .returned (.tuple #[.string s, .int .i64 k]) ∧ Only NoBlock w w' := by
  subst hk; subst hM; exact read_at w d mb M n h hw

/-- what opening leaves -/
def OpenEnd (M : DM) (n : Int) (d mb : Nat) (w : World) (e : Ending) (w' : World) : Prop :=
  ∃ p v, e = .returned (.tuple #[p, v, .int .i64 (Wal.openE M n)]) ∧ DiskAt w' d mb (Wal.openM M n) ∧ Only (fun k => k = d ∨ k = mb) w w' ∧
    ((Wal.openE M n = 0 ∧ ∃ g, p = .pointer (some ⟨g, 0, none⟩) ∧ w.heap.size ≤ g ∧ LogAt w' g d n ∧ Strs w' w.heap.size v (Wal.openL M n)) ∨ (Wal.openE M n ≠ 0 ∧ p = .pointer none ∧ v = .slice none 0 0))
theorem OpenEnd.no {M : DM} {n : Int} {d mb : Nat} {w w' : World} (x : Int) (M' : DM) (hx : Wal.openE M n = x) (hM : Wal.openM M n = M') (h0 : x ≠ 0) (hd : DiskAt w' d mb M') (ho : Only (fun k => k = d ∨ k = mb) w w') :
    OpenEnd M n d mb w (.returned (.tuple #[.pointer none, .slice none 0 0, .int .i64 x])) w' := by
  subst hx; subst hM
  exact ⟨_, _, rfl, hd, ho, .inr ⟨h0, rfl, rfl⟩⟩
theorem OpenEnd.ok {M : DM} {n : Int} {d mb : Nat} {w w' : World} (M' : DM) (hx : Wal.openE M n = 0) (hM : Wal.openM M n = M') (hd : DiskAt w' d mb M') (ho : Only (fun k => k = d ∨ k = mb) w w') (g : Nat) (v : Value) (hg : w.heap.size ≤ g) (hl : LogAt w' g d n)
    (hv : Strs w' w.heap.size v (Wal.openL M n)) : OpenEnd M n d mb w (.returned (.tuple #[.pointer (some ⟨g, 0, none⟩), v, .int .i64 0])) w' := by
  subst hM
  exact ⟨_, _, by rw [hx], hd, ho, .inl ⟨hx, g, rfl, hg, hl, hv⟩⟩

set_option maxRecDepth 100000 in
set_option maxHeartbeats 2000000 in
theorem open_at (w : World) (d mb : Nat) (M : DM) (n : Int) (h : DiskAt w d mb M) (hw : (Lit.int .i64 n).wf = true) :
    Calls Try.prog 37 #[.pointer (some ⟨d, 0, none⟩), .int .i64 n] w (OpenEnd M n d mb w) := by
  have hdl := h.blk.lt
  have hml := h.files.lt
  by_cases hn : n < 0 ∨ 16 ≤ n
  · have hE : Wal.openE M n = 1 := by unfold Wal.openE; rw [if_pos hn]
    have hM : Wal.openM M n = M := by unfold Wal.openM; rw [if_pos hn]
    have HE := Lib.hid hE
    have HM := Lib.hid hM
    clear hE hM
    rcases hn with hn | hn
    · go_enter Try.func37, Try.ntmps37
      go_wp2_with fail
      go_ret3
      exact OpenEnd.no 1 M HE.out HM.out (by decide) h (Only.refl _ _)
    · have hn0 : ¬ n < 0 := by omega
      go_enter Try.func37, Try.ntmps37
      go_wp2_with fail
      go_ret3
      exact OpenEnd.no 1 M HE.out HM.out (by decide) h (Only.refl _ _)
  · have hn0 : ¬ n < 0 := by omega
    have hn1 : ¬ 16 ≤ n := by omega
    have hE : Wal.openE M n = if Wal.o0E M n = 0 then Wal.o1E (Wal.o0 M n) n (M.read n) else Wal.o0E M n := by unfold Wal.openE; rw [if_neg hn]
    have hM : Wal.openM M n = if Wal.o0E M n = 0 then Wal.o1 (Wal.o0 M n) n (M.read n) else Wal.o0 M n := by unfold Wal.openM; rw [if_neg hn]
    have HE := Lib.hid hE
    have HM := Lib.hid hM
    have hsz := Wal.read_size h.ok n
    clear hE hM hn
    go_enter Try.func37, Try.ntmps37
    go_wp2_with fail
    obtain ⟨s, HS⟩ : ∃ s, RowKit.Hid (M.read n = s) := ⟨_, Lib.hid rfl⟩
    obtain ⟨k, HK⟩ : ∃ k, RowKit.Hid (M.readE n = k) := ⟨_, Lib.hid rfl⟩
    rw [HS.out] at hsz
    refine (read_as' h hw HK.out HS.out).mono ?_
    rintro e w1 ⟨rfl, ho1⟩
    have hd1 := h.keeps ho1 (fun h => h) (fun h => h)
    go_upto_if 24 with (fail)
    go_cut [7, 8] (fun v7 v8 wx => ∃ x : Int, v7 = .string s ∧ v8 = .int .i64 x ∧ DiskAt wx d mb (Wal.o0 M n) ∧ Only (fun k => k = d ∨ k = mb) w wx ∧ RowKit.Hid (Wal.o0E M n = x))
    case first =>
      by_cases hk : k = 12
      · subst hk
        have hs0 : s = ByteArray.empty := by rw [← HS.out]; exact Wal.read_none HK.out
        subst hs0
        go_wp2_with (first
          | (go_at_call 12; refine (replace_as hd1 hw (by decide) rfl rfl).mono ?_; rintro e w2 ⟨rfl, hd2, ho2⟩))
        go_meet
        exact ⟨_, rfl, rfl, by rw [show Wal.o0 M n = M.replace n ByteArray.empty from by unfold Wal.o0; rw [if_pos HK.out]]; exact hd2, ho1.of_no.trans ho2, Lib.hid (by unfold Wal.o0E; rw [if_pos HK.out]; rfl)⟩
      · have hkb : (k == 12) = false := by simpa using hk
        have hk' : ¬ M.readE n = 12 := by rw [HK.out]; exact hk
        have HK' := Lib.hid hk'
        clear hk hk'
        go_wp2_with fail
        go_meet
        exact ⟨k, rfl, rfl, by rw [show Wal.o0 M n = M from by unfold Wal.o0; rw [if_neg HK'.out]]; exact hd1, ho1.of_no, Lib.hid (by unfold Wal.o0E; rw [if_neg HK'.out]; exact HK.out)⟩
    case rest =>
      obtain ⟨x, rfl, rfl, hd2, ho2, HX⟩ := hcut
      by_cases hx : x = 0
      · subst hx
        have hE2 : Wal.openE M n = Wal.o1E (Wal.o0 M n) n s := by rw [HE.out, if_pos HX.out, HS.out]
        have hM2 : Wal.openM M n = Wal.o1 (Wal.o0 M n) n s := by rw [HM.out, if_pos HX.out, HS.out]
        have HE2 := Lib.hid hE2
        have HM2 := Lib.hid hM2
        clear HE HM hE2 hM2
        go_wp2_with fail
        refine (scan_at _ s (by omega)).mono ?_
        rintro e w3 ⟨v, rfl, hv3, ho3⟩
        have hd3 := hd2.keeps ho3 (fun h => h) (fun h => h)
        have hwl := Wal.whole_le s
        have HL : RowKit.Hid (Wal.openL M n = (Wal.scan (nums s)).1.map textOf) := Lib.hid (by unfold Wal.openL Wal.recs; rw [HS.out])
        rw [← HL.out] at hv3
        replace hv3 : Strs w3 w.heap.size v (Wal.openL M n) := hv3.lower ho2.size
        have hdx : ∀ k, (k = d ∨ k = mb) → k < w.heap.size := by rintro k (rfl | rfl) <;> assumption
        have HDX := Lib.hid hdx
        clear hdx
        rw [show (Wal.scan (nums s)).2 = Wal.whole s from rfl]
        go_upto_if 39 with (fail)
        go_cut [8] (fun v8 wx => v8 = .int .i64 (Wal.o1E (Wal.o0 M n) n s) ∧ DiskAt wx d mb (Wal.o1 (Wal.o0 M n) n s) ∧ Only (fun k => k = d ∨ k = mb) w wx ∧ Strs wx w.heap.size v (Wal.openL M n))
        case first =>
          by_cases hlt : Wal.whole s < s.size
          · have hE3 : Wal.o1E (Wal.o0 M n) n s = (Wal.o0 M n).replaceE n (s.extract 0 (Wal.whole s)) := by unfold Wal.o1E; rw [if_pos hlt]
            have hM3 : Wal.o1 (Wal.o0 M n) n s = (Wal.o0 M n).replace n (s.extract 0 (Wal.whole s)) := by unfold Wal.o1; rw [if_pos hlt]
            have HE3 := Lib.hid hE3
            have HM3 := Lib.hid hM3
            clear hE3 hM3
            go_wp2_with (first
              | (go_at_call 12; refine (replace_as hd3 hw (by simp; omega) HE3.out.symm HM3.out.symm).mono ?_; rintro e w4 ⟨rfl, hd4, ho4⟩))
            go_meet
            exact ⟨rfl, hd4, (ho2.trans ho3.of_no).trans ho4, hv3.keeps2 ho4 HDX.out⟩
          · have hE3 : Wal.o1E (Wal.o0 M n) n s = (Wal.o0 M n).syncE n := by unfold Wal.o1E; rw [if_neg hlt]
            have hM3 : Wal.o1 (Wal.o0 M n) n s = (Wal.o0 M n).sync n := by unfold Wal.o1; rw [if_neg hlt]
            have HE3 := Lib.hid hE3
            have HM3 := Lib.hid hM3
            clear hE3 hM3
            go_wp2_with (first
              | (go_at_call 61; refine (sync_as' hd3 hw HE3.out.symm HM3.out.symm).mono ?_; rintro e w4 ⟨rfl, hd4, ho4⟩))
            go_meet
            exact ⟨rfl, hd4, (ho2.trans ho3.of_no).trans ho4, hv3.keeps2 ho4 HDX.out⟩
        case rest =>
          obtain ⟨rfl, hd5, ho5, hv5⟩ := hcut
          by_cases hz : Wal.o1E (Wal.o0 M n) n s = 0
          · have HZ := Lib.hid hz
            clear hz
            rw [HZ.out]
            go_wp2_with fail
            go_ret3
            exact OpenEnd.ok _ (by rw [HE2.out, HZ.out]) HM2.out (hd5.keeps ((Only.refl NoBlock _).alloc _) (fun h => h) (fun h => h)) (ho5.alloc _) _ v ho5.size (Blk.made _ _ _) (hv5.keeps ((Only.refl NoBlock _).alloc _) (fun _ _ h => h))
          · have hzb : (Wal.o1E (Wal.o0 M n) n s != 0) = true := by simpa using hz
            have HZ := Lib.hid hz
            clear hz
            go_wp2_with fail
            go_ret3
            exact OpenEnd.no _ _ HE2.out HM2.out HZ.out hd5 ho5
      · have hE2 : Wal.openE M n = x := by rw [HE.out, if_neg (by rw [HX.out]; exact hx), HX.out]
        have hM2 : Wal.openM M n = Wal.o0 M n := by rw [HM.out, if_neg (by rw [HX.out]; exact hx)]
        have HE2 := Lib.hid hE2
        have HM2 := Lib.hid hM2
        have HX0 := Lib.hid hx
        have hxb : (x != 0) = true := by simpa using hx
        clear HE HM hE2 hM2 hx
        go_wp2_with fail
        go_ret3
        exact OpenEnd.no _ _ HE2.out HM2.out HX0.out hd2 ho2

theorem opened_nil (w : World) (n : Int) :
    Calls Try.prog 37 #[.pointer none, .int .i64 n] w fun e w' => e = .returned (.tuple #[.pointer none, .slice none 0 0, .int .i64 (if n < 0 ∨ 16 ≤ n then 1 else 10)]) ∧ Only NoBlock w w' := by
  by_cases hn : n < 0 ∨ 16 ≤ n
  · rcases hn with hn | hn
    · go_enter Try.func37, Try.ntmps37
      go_wp2_with fail
      go_ret3
      exact ⟨rfl, Only.refl _ _⟩
    · have hn0 : ¬ n < 0 := by omega
      go_enter Try.func37, Try.ntmps37
      go_wp2_with fail
      go_ret3
      exact ⟨rfl, Only.refl _ _⟩
  · have hn0 : ¬ n < 0 := by omega
    have hn1 : ¬ 16 ≤ n := by omega
    clear hn
    go_enter Try.func37, Try.ntmps37
    go_wp2_with fail
    refine (read_nil w n).mono ?_
    rintro e w1 ⟨rfl, rfl⟩
    go_wp2_with fail
    go_ret3
    exact ⟨rfl, Only.refl _ _⟩

theorem LogAt.apart {w : World} {g d mb : Nat} {n : Int} {M : DM} (h : LogAt w g d n) (hd : DiskAt w d mb M) : g ≠ d ∧ g ≠ mb := by
  unfold LogAt Blk at h
  refine ⟨?_, ?_⟩
  · intro e
    have := hd.blk
    unfold Blk at this
    rw [← e, h] at this
    cases this
  · intro e
    obtain ⟨D, ⟨es, clock, hb, _⟩, _⟩ := hd.files
    rw [← e, h] at hb
    cases hb

def LogEnd (k : Int) (M' : DM) (d mb : Nat) (w : World) (e : Ending) (w' : World) : Prop :=
  e = .returned (.int .i64 k) ∧ DiskAt w' d mb M' ∧ Only (fun k => k = d ∨ k = mb) w w'

namespace Wal
theorem long_at {l : List ByteArray} {k : Nat} (h : k < l.length) (hl : 65536 < (l.getD k ByteArray.empty).size) : long l = true := by
  unfold long
  rw [List.any_eq_true]
  rw [List.getD_eq_getElem?_getD, List.getElem?_eq_getElem h] at hl
  exact ⟨l[k], List.getElem_mem h, by simpa using hl⟩
theorem long_none {l : List ByteArray} (h : ∀ i, i < l.length → (l.getD i ByteArray.empty).size ≤ 65536) : long l = false := by
  unfold long
  rw [List.any_eq_false]
  intro x hx
  obtain ⟨i, hi, rfl⟩ := List.mem_iff_getElem.1 hx
  have := h i hi
  rw [List.getD_eq_getElem?_getD, List.getElem?_eq_getElem hi] at this
  simpa using this
end Wal

set_option maxRecDepth 100000 in
set_option maxHeartbeats 2000000 in
theorem log_append_at (w : World) (g d mb : Nat) (M : DM) (n : Int) (ao : Option Addr) (cap : Nat) (l : List ByteArray) (h : DiskAt w d mb M) (hg : LogAt w g d n) (hw : (Lit.int .i64 n).wf = true) (hl : StrsIn w ao l) (hsz : (Wal.text l).size ≤ 1000000000) :
    Calls Try.prog 49 #[.pointer (some ⟨g, 0, none⟩), .slice ao l.length cap] w (LogEnd (Wal.appE M n l) (Wal.app M n l) d mb w) := by
  obtain ⟨hgd, hgm⟩ := hg.apart h
  have hlm := hl.len
  unfold maxLen at hlm
  have hgl : g < w.heap.size := hg.lt
  go_enter Try.func49, Try.ntmps49
  go_wp2_with fail
  go_loopw [5, 13] (fun v5 i wr => ∃ k : Nat, k ≤ l.length ∧ i = .int .i64 k ∧ v5 = .string (Wal.text (l.take k)) ∧ Only NoBlock w wr ∧ RowKit.Hid (∀ j, j < k → (l.getD j ByteArray.empty).size ≤ 65536)) (fun _ i _ => l.length - (intOf i).toNat)
  case atStart => exact ⟨0, by omega, rfl, rfl, Only.refl _ _, Lib.hid (fun j hj => by omega)⟩
  case round =>
    obtain ⟨k, hk, rfl, rfl, ho, HS⟩ := hrel
    by_cases hlt : k < l.length
    · obtain ⟨b, off, rfl, hcell⟩ := (hl.keeps ho (fun _ _ h => h)).at hlt
      have hts := Wal.take_snoc hlt
      have htx : Wal.text (l.take (k + 1)) = Wal.text (l.take k) ++ textOf (Wal.frame (nums (l.getD k ByteArray.empty))) := by rw [hts, Wal.text_snoc]
      have hfi := Wal.frame_in hlt
      have htl := Wal.text_take_le l (k + 1)
      rw [htx, ByteArray.size_append] at htl
      have HT := Lib.hid htx
      clear htx hts
      by_cases hbig : 65536 < (l.getD k ByteArray.empty).size
      · have hlong := Wal.long_at hlt hbig
        have hE : Wal.appE M n l = 3 := by unfold Wal.appE; rw [if_pos hlong]
        have hM : Wal.app M n l = M := by unfold Wal.app; rw [if_pos hlong]
        have HE := Lib.hid hE
        have HM := Lib.hid hM
        clear hE hM hlong
        generalize l.getD k ByteArray.empty = x at hcell hfi htl hbig
        go_wp2_with fail
        go_ret
        exact ⟨by rw [HE.out]; rfl, by rw [HM.out]; exact h.keeps ho (fun h => h) (fun h => h), ho.of_no⟩
      · have HB : RowKit.Hid ((l.getD k ByteArray.empty).size ≤ 65536) := Lib.hid (by omega)
        generalize hx : l.getD k ByteArray.empty = x at hcell hfi htl hbig HT HB
        have HX := Lib.hid hx
        clear hx
        have hcat : (9223372036854775807 < (Wal.text (l.take k)).size + (textOf (Wal.frame (nums x))).size) = False := by simp; omega
        go_wp2_with (first
          | (go_at_call 75; refine (frame_at _ x (by omega)).mono ?_; rintro e w2 ⟨rfl, ho2⟩))
        go_roundw
        case rel =>
          refine ⟨k + 1, by omega, by go_num, by rw [HT.out], ho.trans ho2, Lib.hid ?_⟩
          intro j hj
          rcases Nat.lt_or_ge j k with hj2 | hj2
          · exact HS.out j hj2
          · obtain rfl : j = k := by omega
            rw [HX.out]
            exact HB.out
        case measure => simp [intOf]; omega
    · obtain rfl : k = l.length := by omega
      have hlong : Wal.long l = false := Wal.long_none HS.out
      have hE : Wal.appE M n l = if M.appendE n (Wal.text l) = 0 then (M.append n (Wal.text l)).syncE n else M.appendE n (Wal.text l) := by unfold Wal.appE; rw [hlong, if_neg (by decide)]
      have hM : Wal.app M n l = if M.appendE n (Wal.text l) = 0 then (M.append n (Wal.text l)).sync n else M.append n (Wal.text l) := by unfold Wal.app; rw [hlong, if_neg (by decide)]
      have HE := Lib.hid hE
      have HM := Lib.hid hM
      clear hE hM hlong
      rw [List.take_length]
      have hg2 := hg.keeps ho (fun h => h)
      have c0 := hg2.cell 0
      have c1 := hg2.cell 1
      simp at c0 c1
      have hd2 := h.keeps ho (fun h => h) (fun h => h)
      go_wp2_with fail
      refine wp_region_tail 9 (by kernel_rfl) (by kernel_rfl) ?_
      simp only [List.take_succ_cons, List.take_zero, List.drop_succ_cons, List.drop_zero]
      repeat still_step
      refine wpStill_nil ?_
      go_wp2_with fail
      refine (append_as' hd2.drew (by omega) rfl rfl).mono ?_
      rintro e w3 ⟨rfl, hd3, ho3⟩
      have hg3 : Blk w3 g _ _ := (Blk.drew hg2).keeps ho3 (fun e => e.elim hgd hgm)
      have c0 := hg3.cell 0
      have c1 := hg3.cell 1
      simp at c0 c1
      by_cases hz : M.appendE n (Wal.text l) = 0
      · rw [hz]
        rw [if_pos hz] at HE HM
        clear hz
        go_wp2_with fail
        refine wp_region_tail 8 (by kernel_rfl) (by kernel_rfl) ?_
        simp only [List.take_succ_cons, List.take_zero, List.drop_succ_cons, List.drop_zero]
        repeat still_step
        refine wpStill_nil ?_
        go_wp2_with fail
        refine (sync_as' hd3.drew hw rfl rfl).mono ?_
        rintro e w4 ⟨rfl, hd4, ho4⟩
        go_wp2_with fail
        go_ret
        exact ⟨by rw [HE.out]; rfl, by rw [HM.out]; exact hd4, ((ho.of_no.drew).trans ho3).drew.trans ho4⟩
      · have hzb : (M.appendE n (Wal.text l) != 0) = true := by simpa using hz
        rw [if_neg hz] at HE HM
        clear hz
        go_wp2_with fail
        go_ret
        exact ⟨by rw [HE.out]; rfl, by rw [HM.out]; exact hd3, (ho.of_no.drew).trans ho3⟩

set_option maxRecDepth 100000 in
set_option maxHeartbeats 2000000 in
theorem log_anew_at (w : World) (g d mb : Nat) (M : DM) (n : Int) (ao : Option Addr) (cap : Nat) (l : List ByteArray) (h : DiskAt w d mb M) (hg : LogAt w g d n) (hw : (Lit.int .i64 n).wf = true) (hl : StrsIn w ao l) (hsz : (Wal.text l).size ≤ 1000000000) :
    Calls Try.prog 52 #[.pointer (some ⟨g, 0, none⟩), .slice ao l.length cap] w (LogEnd (Wal.anewE M n l) (Wal.anew M n l) d mb w) := by
  obtain ⟨hgd, hgm⟩ := hg.apart h
  have hlm := hl.len
  unfold maxLen at hlm
  have hgl : g < w.heap.size := hg.lt
  go_enter Try.func52, Try.ntmps52
  go_wp2_with fail
  go_loopw [5, 12] (fun v5 i wr => ∃ k : Nat, k ≤ l.length ∧ i = .int .i64 k ∧ v5 = .string (Wal.text (l.take k)) ∧ Only NoBlock w wr ∧ RowKit.Hid (∀ j, j < k → (l.getD j ByteArray.empty).size ≤ 65536)) (fun _ i _ => l.length - (intOf i).toNat)
  case atStart => exact ⟨0, by omega, rfl, rfl, Only.refl _ _, Lib.hid (fun j hj => by omega)⟩
  case round =>
    obtain ⟨k, hk, rfl, rfl, ho, HS⟩ := hrel
    by_cases hlt : k < l.length
    · obtain ⟨b, off, rfl, hcell⟩ := (hl.keeps ho (fun _ _ h => h)).at hlt
      have hts := Wal.take_snoc hlt
      have htx : Wal.text (l.take (k + 1)) = Wal.text (l.take k) ++ textOf (Wal.frame (nums (l.getD k ByteArray.empty))) := by rw [hts, Wal.text_snoc]
      have hfi := Wal.frame_in hlt
      have htl := Wal.text_take_le l (k + 1)
      rw [htx, ByteArray.size_append] at htl
      have HT := Lib.hid htx
      clear htx hts
      by_cases hbig : 65536 < (l.getD k ByteArray.empty).size
      · have hlong := Wal.long_at hlt hbig
        have hE : Wal.anewE M n l = 3 := by unfold Wal.anewE; rw [if_pos hlong]
        have hM : Wal.anew M n l = M := by unfold Wal.anew; rw [if_pos hlong]
        have HE := Lib.hid hE
        have HM := Lib.hid hM
        clear hE hM hlong
        generalize l.getD k ByteArray.empty = x at hcell hfi htl hbig
        go_wp2_with fail
        go_ret
        exact ⟨by rw [HE.out]; rfl, by rw [HM.out]; exact h.keeps ho (fun h => h) (fun h => h), ho.of_no⟩
      · have HB : RowKit.Hid ((l.getD k ByteArray.empty).size ≤ 65536) := Lib.hid (by omega)
        generalize hx : l.getD k ByteArray.empty = x at hcell hfi htl hbig HT HB
        have HX := Lib.hid hx
        clear hx
        have hcat : (9223372036854775807 < (Wal.text (l.take k)).size + (textOf (Wal.frame (nums x))).size) = False := by simp; omega
        go_wp2_with (first
          | (go_at_call 75; refine (frame_at _ x (by omega)).mono ?_; rintro e w2 ⟨rfl, ho2⟩))
        go_roundw
        case rel =>
          refine ⟨k + 1, by omega, by go_num, by rw [HT.out], ho.trans ho2, Lib.hid ?_⟩
          intro j hj
          rcases Nat.lt_or_ge j k with hj2 | hj2
          · exact HS.out j hj2
          · obtain rfl : j = k := by omega
            rw [HX.out]
            exact HB.out
        case measure => simp [intOf]; omega
    · obtain rfl : k = l.length := by omega
      have hlong : Wal.long l = false := Wal.long_none HS.out
      have hE : Wal.anewE M n l = M.replaceE n (Wal.text l) := by unfold Wal.anewE; rw [hlong, if_neg (by decide)]
      have hM : Wal.anew M n l = M.replace n (Wal.text l) := by unfold Wal.anew; rw [hlong, if_neg (by decide)]
      have HE := Lib.hid hE
      have HM := Lib.hid hM
      clear hE hM hlong
      rw [List.take_length]
      have hg2 := hg.keeps ho (fun h => h)
      have c0 := hg2.cell 0
      have c1 := hg2.cell 1
      simp at c0 c1
      have hd2 := h.keeps ho (fun h => h) (fun h => h)
      go_wp2_with fail
      refine wp_region_tail 9 (by kernel_rfl) (by kernel_rfl) ?_
      simp only [List.take_succ_cons, List.take_zero, List.drop_succ_cons, List.drop_zero]
      repeat still_step
      refine wpStill_nil ?_
      go_wp2_with fail
      refine (replace_as hd2.drew hw (by omega) rfl rfl).mono ?_
      rintro e w3 ⟨rfl, hd3, ho3⟩
      go_wp2_with fail
      go_ret
      exact ⟨by rw [HE.out]; rfl, by rw [HM.out]; exact hd3, (ho.of_no.drew).trans ho3⟩

theorem log_append_nil (w : World) (v : Value) :
    Calls Try.prog 49 #[.pointer none, v] w fun e w' => e = .returned (.int .i64 10) ∧ w = w' := by
  go_enter Try.func49, Try.ntmps49
  go_wp2_with fail
  go_ret
  exact ⟨rfl, rfl⟩
theorem log_anew_nil (w : World) (v : Value) :
    Calls Try.prog 52 #[.pointer none, v] w fun e w' => e = .returned (.int .i64 10) ∧ w = w' := by
  go_enter Try.func52, Try.ntmps52
  go_wp2_with fail
  go_ret
  exact ⟨rfl, rfl⟩

end Go.Proofs.Ytekmjhenhgmpgaa
