/- The document's log: opening, appending, laying anew are what the plain data say. -/
import Derived.Test.YtfmpmdkedpollaaRframe5
import Derived.Test.YtfmpmdkedpollaaLog
import Derived.Test.YtfmpmdkedpollaaRef4D
namespace Go.Proofs.Ytfmpmdkedpollaa
open Go.RowKit

/-- block g is the document's log of file n of the disk at r -/
def RLogAt (w : World) (g r : Nat) (n : Int) : Prop := Blk w g #[.pointer (some ⟨r, 0, none⟩), .int .i64 n] 88

namespace R5
theorem rapp_as {w : World} {r : Nat} {M : DM} {n : Int} {s : ByteArray} (h : RefAt w r M) (hs : s.size ≤ 4611686018427387904) {k : Int} {M' : DM} (hk : M.appendE n s = k) (hM : M.append n s = M') :
    Calls Try.prog 48 #[.pointer (some ⟨r, 0, none⟩), .int .i64 n, .string s] w fun e w' => e = .returned (.int .i64 k) ∧ RefAt w' r M' ∧ Only (fun k => k = r) w w' := by
  subst hk; subst hM; exact rappend_at w r M n s h hs
theorem rrep_as {w : World} {r : Nat} {M : DM} {n : Int} {s : ByteArray} (h : RefAt w r M) (hs : s.size ≤ 4611686018427387904) {k : Int} {M' : DM} (hk : M.replaceE n s = k) (hM : M.replace n s = M') :
    Calls Try.prog 27 #[.pointer (some ⟨r, 0, none⟩), .int .i64 n, .string s] w fun e w' => e = .returned (.int .i64 k) ∧ RefAt w' r M' ∧ Only (fun k => k = r) w w' := by
  subst hk; subst hM; exact rreplace_at w r M n s h hs
theorem rsyn_as {w : World} {r : Nat} {M : DM} {n : Int} (h : RefAt w r M) {k : Int} {M' : DM} (hk : M.syncE n = k) (hM : M.sync n = M') :
    Calls Try.prog 46 #[.pointer (some ⟨r, 0, none⟩), .int .i64 n] w fun e w' => e = .returned (.int .i64 k) ∧ RefAt w' r M' ∧ Only (fun k => k = r) w w' := by
  subst hk; subst hM; exact rsync_at w r M n h
theorem rread_as {w : World} {r : Nat} {M : DM} {n : Int} (h : RefAt w r M) {k : Int} {s : ByteArray} (hk : M.readE n = k) (hM : M.read n = s) :
    Calls Try.prog 33 #[.pointer (some ⟨r, 0, none⟩), .int .i64 n] w fun e w' => e = .returned (.tuple #[.string s, .int .i64 k]) ∧ Only NoBlock w w' := by
  subst hk; subst hM; exact rread_at w r M n h
end R5

/-- what opening leaves -/
def ROpenEnd (M : DM) (n : Int) (r : Nat) (w : World) (e : Ending) (w' : World) : Prop :=
  ∃ p v, e = .returned (.tuple #[p, v, .int .i64 (Wal.openE M n)]) ∧ RefAt w' r (Wal.openM M n) ∧ Only (fun k => k = r) w w' ∧
    ((Wal.openE M n = 0 ∧ ∃ g, p = .pointer (some ⟨g, 0, none⟩) ∧ w.heap.size ≤ g ∧ RLogAt w' g r n ∧ Strs w' w.heap.size v (Wal.openL M n)) ∨ (Wal.openE M n ≠ 0 ∧ p = .pointer none ∧ v = .slice none 0 0))
theorem ROpenEnd.no {M : DM} {n : Int} {r : Nat} {w w' : World} (x : Int) (M' : DM) (hx : Wal.openE M n = x) (hM : Wal.openM M n = M') (h0 : x ≠ 0) (hd : RefAt w' r M') (ho : Only (fun k => k = r) w w') :
    ROpenEnd M n r w (.returned (.tuple #[.pointer none, .slice none 0 0, .int .i64 x])) w' := by
  subst hx; subst hM
  exact ⟨_, _, rfl, hd, ho, .inr ⟨h0, rfl, rfl⟩⟩
theorem ROpenEnd.ok {M : DM} {n : Int} {r : Nat} {w w' : World} (M' : DM) (hx : Wal.openE M n = 0) (hM : Wal.openM M n = M') (hd : RefAt w' r M') (ho : Only (fun k => k = r) w w') (g : Nat) (v : Value) (hg : w.heap.size ≤ g) (hl : RLogAt w' g r n)
    (hv : Strs w' w.heap.size v (Wal.openL M n)) : ROpenEnd M n r w (.returned (.tuple #[.pointer (some ⟨g, 0, none⟩), v, .int .i64 0])) w' := by
  subst hM
  exact ⟨_, _, by rw [hx], hd, ho, .inl ⟨hx, g, rfl, hg, hl, hv⟩⟩

set_option maxRecDepth 100000 in
set_option maxHeartbeats 2000000 in
theorem ropen_at (w : World) (r : Nat) (M : DM) (n : Int) (h : RefAt w r M) :
    Calls Try.prog 28 #[.pointer (some ⟨r, 0, none⟩), .int .i64 n] w (ROpenEnd M n r w) := by
  have hrl := h.lt
  by_cases hn : n < 0 ∨ 16 ≤ n
  · have hE : Wal.openE M n = 1 := by unfold Wal.openE; rw [if_pos hn]
    have hM : Wal.openM M n = M := by unfold Wal.openM; rw [if_pos hn]
    have HE := Lib.hid hE
    have HM := Lib.hid hM
    clear hE hM
    rcases hn with hn | hn
    · go_enter Try.func28, Try.ntmps28
      go_wp2_with fail
      go_ret3
      exact ROpenEnd.no 1 M HE.out HM.out (by decide) h (Only.refl _ _)
    · have hn0 : ¬ n < 0 := by omega
      have hn1 : 15 < n := by omega
      clear hn
      go_enter Try.func28, Try.ntmps28
      go_wp2_with fail
      go_ret3
      exact ROpenEnd.no 1 M HE.out HM.out (by decide) h (Only.refl _ _)
  · have hn0 : ¬ n < 0 := by omega
    have hn1 : ¬ 15 < n := by omega
    have hE : Wal.openE M n = if Wal.o0E M n = 0 then Wal.o1E (Wal.o0 M n) n (M.read n) else Wal.o0E M n := by unfold Wal.openE; rw [if_neg hn]
    have hM : Wal.openM M n = if Wal.o0E M n = 0 then Wal.o1 (Wal.o0 M n) n (M.read n) else Wal.o0 M n := by unfold Wal.openM; rw [if_neg hn]
    have HE := Lib.hid hE
    have HM := Lib.hid hM
    have hsz := Wal.read_size h.ok n
    clear hE hM hn
    go_enter Try.func28, Try.ntmps28
    go_wp2_with fail
    obtain ⟨s, HS⟩ : ∃ s, RowKit.Hid (M.read n = s) := ⟨_, Lib.hid rfl⟩
    obtain ⟨k, HK⟩ : ∃ k, RowKit.Hid (M.readE n = k) := ⟨_, Lib.hid rfl⟩
    rw [HS.out] at hsz
    refine (R5.rread_as h HK.out HS.out).mono ?_
    rintro e w1 ⟨rfl, ho1⟩
    have hd1 := h.keeps ho1 (fun h => h)
    go_upto_if 24 with (fail)
    go_cut [7, 8] (fun v7 v8 wx => ∃ x : Int, v7 = .string s ∧ v8 = .int .i64 x ∧ RefAt wx r (Wal.o0 M n) ∧ Only (fun k => k = r) w wx ∧ RowKit.Hid (Wal.o0E M n = x))
    case first =>
      by_cases hk : k = 12
      · subst hk
        have hs0 : s = ByteArray.empty := by rw [← HS.out]; exact Wal.read_none HK.out
        subst hs0
        go_wp2_with (first
          | (go_at_call 27; refine (R5.rrep_as hd1 (by decide) rfl rfl).mono ?_; rintro e w2 ⟨rfl, hd2, ho2⟩))
        go_meet
        exact ⟨_, rfl, rfl, by rw [show Wal.o0 M n = M.replace n ByteArray.empty from by unfold Wal.o0; rw [if_pos HK.out]]; exact hd2, ho1.of_no.trans ho2, Lib.hid (by unfold Wal.o0E; rw [if_pos HK.out]; rfl)⟩
      · have hkb : (k == 12) = false := by simpa using hk
        have hk' : ¬ M.readE n = 12 := by rw [HK.out]; exact hk
        have HK' := Lib.hid hk'
        clear hk hk'
        go_wp2_with fail
        go_meet
        exact ⟨k, rfl, rfl, by rw [show Wal.o0 M n = M from by unfold Wal.o0; rw [if_neg HK'.out]]; exact hd1, ho1.of_no, Lib.hid (by unfold Wal.o0E; rw [if_neg HK'.out]; exact HK.out)⟩
    case rest =>
      obtain ⟨x, rfl, rfl, hd2, ho2, HX⟩ := hcut
      by_cases hx : x = 0
      · subst hx
        have hE2 : Wal.openE M n = Wal.o1E (Wal.o0 M n) n s := by rw [HE.out, if_pos HX.out, HS.out]
        have hM2 : Wal.openM M n = Wal.o1 (Wal.o0 M n) n s := by rw [HM.out, if_pos HX.out, HS.out]
        have HE2 := Lib.hid hE2
        have HM2 := Lib.hid hM2
        clear HE HM hE2 hM2
        go_wp2_with fail
        refine (rscan_at _ s (by omega)).mono ?_
        rintro e w3 ⟨v, rfl, hv3, ho3⟩
        have hd3 := hd2.keeps ho3 (fun h => h)
        have hwl := Wal.whole_le s
        have HL : RowKit.Hid (Wal.openL M n = (Wal.scan (nums s)).1.map textOf) := Lib.hid (by unfold Wal.openL Wal.recs; rw [HS.out])
        rw [← HL.out] at hv3
        replace hv3 : Strs w3 w.heap.size v (Wal.openL M n) := hv3.lower ho2.size
        have hdx : ∀ k, k = r → k < w.heap.size := by rintro k rfl; assumption
        have HDX := Lib.hid hdx
        clear hdx
        rw [show (Wal.scan (nums s)).2 = Wal.whole s from rfl]
        go_upto_if 39 with (fail)
        go_cut [8] (fun v8 wx => v8 = .int .i64 (Wal.o1E (Wal.o0 M n) n s) ∧ RefAt wx r (Wal.o1 (Wal.o0 M n) n s) ∧ Only (fun k => k = r) w wx ∧ Strs wx w.heap.size v (Wal.openL M n))
        case first =>
          by_cases hlt : Wal.whole s < s.size
          · have hE3 : Wal.o1E (Wal.o0 M n) n s = (Wal.o0 M n).replaceE n (s.extract 0 (Wal.whole s)) := by unfold Wal.o1E; rw [if_pos hlt]
            have hM3 : Wal.o1 (Wal.o0 M n) n s = (Wal.o0 M n).replace n (s.extract 0 (Wal.whole s)) := by unfold Wal.o1; rw [if_pos hlt]
            have HE3 := Lib.hid hE3
            have HM3 := Lib.hid hM3
            clear hE3 hM3
            go_wp2_with (first
              | (go_at_call 27; refine (R5.rrep_as hd3 (by simp; omega) HE3.out.symm HM3.out.symm).mono ?_; rintro e w4 ⟨rfl, hd4, ho4⟩))
            go_meet
            exact ⟨rfl, hd4, (ho2.trans ho3.of_no).trans ho4, hv3.keeps2 ho4 HDX.out⟩
          · have hE3 : Wal.o1E (Wal.o0 M n) n s = (Wal.o0 M n).syncE n := by unfold Wal.o1E; rw [if_neg hlt]
            have hM3 : Wal.o1 (Wal.o0 M n) n s = (Wal.o0 M n).sync n := by unfold Wal.o1; rw [if_neg hlt]
            have HE3 := Lib.hid hE3
            have HM3 := Lib.hid hM3
            clear hE3 hM3
            go_wp2_with (first
              | (go_at_call 46; refine (R5.rsyn_as hd3 HE3.out.symm HM3.out.symm).mono ?_; rintro e w4 ⟨rfl, hd4, ho4⟩))
            go_meet
            exact ⟨rfl, hd4, (ho2.trans ho3.of_no).trans ho4, hv3.keeps2 ho4 HDX.out⟩
        case rest =>
          obtain ⟨rfl, hd5, ho5, hv5⟩ := hcut
          by_cases hz : Wal.o1E (Wal.o0 M n) n s = 0
          · have HZ := Lib.hid hz
            clear hz
            rw [HZ.out]
            go_wp2_with fail
            go_ret3
            exact ROpenEnd.ok _ (by rw [HE2.out, HZ.out]) HM2.out (hd5.keeps ((Only.refl NoBlock _).alloc _) (fun h => h)) (ho5.alloc _) _ v ho5.size (Blk.made _ _ _) (hv5.keeps ((Only.refl NoBlock _).alloc _) (fun _ _ h => h))
          · have hzb : (Wal.o1E (Wal.o0 M n) n s != 0) = true := by simpa using hz
            have HZ := Lib.hid hz
            clear hz
            go_wp2_with fail
            go_ret3
            exact ROpenEnd.no _ _ HE2.out HM2.out HZ.out hd5 ho5
      · have hE2 : Wal.openE M n = x := by rw [HE.out, if_neg (by rw [HX.out]; exact hx), HX.out]
        have hM2 : Wal.openM M n = Wal.o0 M n := by rw [HM.out, if_neg (by rw [HX.out]; exact hx)]
        have HE2 := Lib.hid hE2
        have HM2 := Lib.hid hM2
        have HX0 := Lib.hid hx
        have hxb : (x != 0) = true := by simpa using hx
        clear HE HM hE2 hM2 hx
        go_wp2_with fail
        go_ret3
        exact ROpenEnd.no _ _ HE2.out HM2.out HX0.out hd2 ho2

theorem RLogAt.apart {w : World} {g r : Nat} {n : Int} {M : DM} (h : RLogAt w g r n) (hd : RefAt w r M) : g ≠ r := by
  intro e
  subst e
  obtain ⟨_, cs, fi, so, th, hb, _⟩ := hd
  unfold RLogAt Blk at h
  unfold Blk at hb
  rw [h] at hb
  cases hb

namespace Wal
/-- what framing some texts gives -/
def ftext (l : List ByteArray) : ByteArray := if long l = true then ByteArray.empty else text l
theorem ftext_long {l : List ByteArray} (h : long l = true) : ftext l = ByteArray.empty := by unfold ftext; rw [if_pos h]
theorem ftext_ok {l : List ByteArray} (h : long l = false) : ftext l = text l := by unfold ftext; rw [h, if_neg (by decide)]
end Wal
set_option maxHeartbeats 2000000 in
theorem rframes_at (w : World) (ao : Option Addr) (cap : Nat) (l : List ByteArray) (hl : StrsIn w ao l) (hsz : (Wal.text l).size ≤ 1000000000) :
    Calls Try.prog 47 #[.slice ao l.length cap] w fun e w' => e = .returned (.tuple #[.string (Wal.ftext l), .bool (!Wal.long l)]) ∧ Only NoBlock w w' := by
  have hlm := hl.len
  unfold maxLen at hlm
  go_enter Try.func47, Try.ntmps47
  go_wp2_with fail
  go_loopw [4, 5] (fun v5 i wr => ∃ k : Nat, k ≤ l.length ∧ i = .int .i64 k ∧ v5 = .string (Wal.text (l.take k)) ∧ Only NoBlock w wr ∧ RowKit.Hid (∀ j, j < k → (l.getD j ByteArray.empty).size ≤ 65536)) (fun _ i _ => l.length - (intOf i).toNat)
  case atStart => exact ⟨0, by omega, rfl, rfl, Only.refl _ _, Lib.hid (fun j hj => by omega)⟩
  case round =>
    obtain ⟨k, hk, rfl, rfl, ho, HS⟩ := hrel
    by_cases hlt : k < l.length
    · obtain ⟨b, off, rfl, hcell⟩ := (hl.keeps ho (fun _ _ h => h)).at hlt
      have hts := Wal.take_snoc hlt
      have htx : Wal.text (l.take (k + 1)) = Wal.text (l.take k) ++ textOf (Wal.frame (nums (l.getD k ByteArray.empty))) := by rw [hts, Wal.text_snoc]
      have hfi := Wal.frame_in hlt
      have htl := Wal.text_take_le l (k + 1)
      rw [htx, ByteArray.size_append] at htl
      have HT := Lib.hid htx
      clear htx hts
      by_cases hbig : 65536 < (l.getD k ByteArray.empty).size
      · have hlong := Wal.long_at hlt hbig
        have HG := Lib.hid hlong
        clear hlong
        generalize l.getD k ByteArray.empty = x at hcell hfi htl hbig
        have hdb : decide ((65536 : Int) < (x.size : Int)) = true := by simp; omega
        clear hbig
        go_wp2_with fail
        go_ret2
        exact ⟨by rw [HG.out, Wal.ftext_long HG.out]; rfl, ho⟩
      · have HB : RowKit.Hid ((l.getD k ByteArray.empty).size ≤ 65536) := Lib.hid (by omega)
        generalize hx : l.getD k ByteArray.empty = x at hcell hfi htl hbig HT HB
        have HX := Lib.hid hx
        have hdb : decide ((65536 : Int) < (x.size : Int)) = false := by simp; omega
        clear hx hbig
        have hcat : (9223372036854775807 < (Wal.text (l.take k)).size + (textOf (Wal.frame (nums x))).size) = False := by simp; omega
        go_wp2_with (first
          | (go_at_call 15; refine (rframe_at _ x (by omega)).mono ?_; rintro e w2 ⟨rfl, ho2⟩))
        go_roundw
        case rel =>
          refine ⟨k + 1, by omega, by go_num, by rw [HT.out], ho.trans ho2, Lib.hid ?_⟩
          intro j hj
          rcases Nat.lt_or_ge j k with hj2 | hj2
          · exact HS.out j hj2
          · obtain rfl : j = k := by omega
            rw [HX.out]
            exact HB.out
        case measure => simp [intOf]; omega
    · obtain rfl : k = l.length := by omega
      have hlong : Wal.long l = false := Wal.long_none HS.out
      have HG := Lib.hid hlong
      clear hlong
      rw [List.take_length]
      go_wp2_with fail
      go_ret2
      exact ⟨by rw [HG.out, Wal.ftext_ok HG.out]; rfl, ho⟩

def RLogEnd (k : Int) (M' : DM) (r : Nat) (w : World) (e : Ending) (w' : World) : Prop :=
  e = .returned (.int .i64 k) ∧ RefAt w' r M' ∧ Only (fun k => k = r) w w'

set_option maxRecDepth 100000 in
set_option maxHeartbeats 2000000 in
theorem rlog_append_at (w : World) (g r : Nat) (M : DM) (n : Int) (ao : Option Addr) (cap : Nat) (l : List ByteArray) (h : RefAt w r M) (hg : RLogAt w g r n) (hl : StrsIn w ao l) (hsz : (Wal.text l).size ≤ 1000000000) :
    Calls Try.prog 30 #[.pointer (some ⟨g, 0, none⟩), .slice ao l.length cap] w (RLogEnd (Wal.appE M n l) (Wal.app M n l) r w) := by
  have hgd := hg.apart h
  have hgl : g < w.heap.size := hg.lt
  go_enter Try.func30, Try.ntmps30
  go_wp2_with fail
  refine (rframes_at w ao cap l hl hsz).mono ?_
  rintro e w1 ⟨rfl, ho⟩
  cases hlong : Wal.long l with
  | true =>
    have hE : Wal.appE M n l = 3 := by unfold Wal.appE; rw [if_pos hlong]
    have hM : Wal.app M n l = M := by unfold Wal.app; rw [if_pos hlong]
    have HE := Lib.hid hE
    have HM := Lib.hid hM
    clear hE hM hlong
    go_wp2_with fail
    go_ret
    exact ⟨by rw [HE.out]; rfl, by rw [HM.out]; exact h.keeps ho (fun h => h), ho.of_no⟩
  | false =>
    have hE : Wal.appE M n l = if M.appendE n (Wal.text l) = 0 then (M.append n (Wal.text l)).syncE n else M.appendE n (Wal.text l) := by unfold Wal.appE; rw [hlong, if_neg (by decide)]
    have hM : Wal.app M n l = if M.appendE n (Wal.text l) = 0 then (M.append n (Wal.text l)).sync n else M.append n (Wal.text l) := by unfold Wal.app; rw [hlong, if_neg (by decide)]
    have HE := Lib.hid hE
    have HM := Lib.hid hM
    rw [Wal.ftext_ok hlong]
    clear hE hM hlong
    have hg2 := Blk.keeps hg ho (fun h => h)
    have c0 := hg2.cell 0
    have c1 := hg2.cell 1
    simp at c0 c1
    have hd2 := h.keeps ho (fun h => h)
    go_wp2_with fail
    refine wp_region_tail 9 (by kernel_rfl) (by kernel_rfl) ?_
    simp only [List.take_succ_cons, List.take_zero, List.drop_succ_cons, List.drop_zero]
    repeat still_step
    refine wpStill_nil ?_
    go_wp2_with fail
    refine (R5.rapp_as (hd2.keeps ((Only.refl NoBlock _).drew) (fun h => h)) (by omega) rfl rfl).mono ?_
    rintro e w3 ⟨rfl, hd3, ho3⟩
    have hg3 : Blk w3 g _ _ := (Blk.drew hg2).keeps ho3 hgd
    have c0 := hg3.cell 0
    have c1 := hg3.cell 1
    simp at c0 c1
    by_cases hz : M.appendE n (Wal.text l) = 0
    · rw [hz]
      rw [if_pos hz] at HE HM
      clear hz
      go_wp2_with fail
      refine wp_region_tail 8 (by kernel_rfl) (by kernel_rfl) ?_
      simp only [List.take_succ_cons, List.take_zero, List.drop_succ_cons, List.drop_zero]
      repeat still_step
      refine wpStill_nil ?_
      go_wp2_with fail
      refine (R5.rsyn_as (hd3.keeps ((Only.refl NoBlock _).drew) (fun h => h)) rfl rfl).mono ?_
      rintro e w4 ⟨rfl, hd4, ho4⟩
      go_wp2_with fail
      go_ret
      exact ⟨by rw [HE.out]; rfl, by rw [HM.out]; exact hd4, ((ho.of_no.drew).trans ho3).drew.trans ho4⟩
    · have hzb : (M.appendE n (Wal.text l) != 0) = true := by simpa using hz
      rw [if_neg hz] at HE HM
      clear hz
      go_wp2_with fail
      go_ret
      exact ⟨by rw [HE.out]; rfl, by rw [HM.out]; exact hd3, (ho.of_no.drew).trans ho3⟩

set_option maxRecDepth 100000 in
set_option maxHeartbeats 2000000 in
theorem rlog_anew_at (w : World) (g r : Nat) (M : DM) (n : Int) (ao : Option Addr) (cap : Nat) (l : List ByteArray) (h : RefAt w r M) (hg : RLogAt w g r n) (hl : StrsIn w ao l) (hsz : (Wal.text l).size ≤ 1000000000) :
    Calls Try.prog 29 #[.pointer (some ⟨g, 0, none⟩), .slice ao l.length cap] w (RLogEnd (Wal.anewE M n l) (Wal.anew M n l) r w) := by
  have hgd := hg.apart h
  have hgl : g < w.heap.size := hg.lt
  go_enter Try.func29, Try.ntmps29
  go_wp2_with fail
  refine (rframes_at w ao cap l hl hsz).mono ?_
  rintro e w1 ⟨rfl, ho⟩
  cases hlong : Wal.long l with
  | true =>
    have hE : Wal.anewE M n l = 3 := by unfold Wal.anewE; rw [if_pos hlong]
    have hM : Wal.anew M n l = M := by unfold Wal.anew; rw [if_pos hlong]
    have HE := Lib.hid hE
    have HM := Lib.hid hM
    clear hE hM hlong
    go_wp2_with fail
    go_ret
    exact ⟨by rw [HE.out]; rfl, by rw [HM.out]; exact h.keeps ho (fun h => h), ho.of_no⟩
  | false =>
    have hE : Wal.anewE M n l = M.replaceE n (Wal.text l) := by unfold Wal.anewE; rw [hlong, if_neg (by decide)]
    have hM : Wal.anew M n l = M.replace n (Wal.text l) := by unfold Wal.anew; rw [hlong, if_neg (by decide)]
    have HE := Lib.hid hE
    have HM := Lib.hid hM
    rw [Wal.ftext_ok hlong]
    clear hE hM hlong
    have hg2 := Blk.keeps hg ho (fun h => h)
    have c0 := hg2.cell 0
    have c1 := hg2.cell 1
    simp at c0 c1
    have hd2 := h.keeps ho (fun h => h)
    go_wp2_with fail
    refine wp_region_tail 9 (by kernel_rfl) (by kernel_rfl) ?_
    simp only [List.take_succ_cons, List.take_zero, List.drop_succ_cons, List.drop_zero]
    repeat still_step
    refine wpStill_nil ?_
    go_wp2_with fail
    refine (R5.rrep_as (hd2.keeps ((Only.refl NoBlock _).drew) (fun h => h)) (by omega) rfl rfl).mono ?_
    rintro e w3 ⟨rfl, hd3, ho3⟩
    go_wp2_with fail
    go_ret
    exact ⟨by rw [HE.out]; rfl, by rw [HM.out]; exact hd3, (ho.of_no.drew).trans ho3⟩

end Go.Proofs.Ytfmpmdkedpollaa
