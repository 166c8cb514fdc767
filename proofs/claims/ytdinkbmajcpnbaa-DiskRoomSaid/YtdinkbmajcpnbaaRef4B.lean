/- The document's disk: Sync, Replace, Remove, Read, Files, Crash, and the comparison of two lists of numbers. -/
import Derived.Test.YtdinkbmajcpnbaaRef4
namespace Go.Proofs.Ytdinkbmajcpnbaa
open Go.RowKit Go.Maps
set_option maxRecDepth 100000

theorem rhas_gone (w : World) (r : Nat) (M : DM) (n : Int) (h : RefAt w r M) (hs : (M.files n).isSome = false) :
    Calls Try.prog 37 #[.pointer (some ⟨r, 0, none⟩), .int .i64 n] w fun e w' => e = .returned (.bool false) ∧ w = w' := by
  by_cases hn : n < 0 ∨ 15 < n
  · exact rhas_no w r n hn
  · obtain ⟨m, rfl⟩ := Int.eq_ofNat_of_zero_le (show 0 ≤ n by omega)
    exact rhas_at w r M m (by omega) h false hs

def RSynEnd (M : DM) (n : Int) (r : Nat) (w : World) (e : Ending) (w' : World) : Prop :=
  e = .returned (.int .i64 (M.syncE n)) ∧ RefAt w' r (M.sync n) ∧ Only (fun k => k = r) w w'

theorem rsync_at (w : World) (r : Nat) (M : DM) (n : Int) (h : RefAt w r M) :
    Calls Try.prog 32 #[.pointer (some ⟨r, 0, none⟩), .int .i64 n] w (RSynEnd M n r w) := by
  have c := h.cOff
  cases hoff : M.off with
  | true =>
    rw [hoff] at c
    go_enter Try.func32, Try.ntmps32
    go_wp2
    go_ret
    exact ⟨by simp [DM.syncE, hoff], by simpa [DM.sync, hoff] using h, Only.refl _ _⟩
  | false =>
    rw [hoff] at c
    cases hth : (M.files n).isSome with
    | false =>
      go_enter Try.func32, Try.ntmps32
      go_wp2_with (first | (go_at_call 37; refine (rhas_gone _ r M n h hth).mono ?_; rintro e w1 ⟨rfl, rfl⟩))
      go_ret
      exact ⟨by simp [DM.syncE, hoff, hth], by simpa [DM.sync, hoff, hth] using h, Only.refl _ _⟩
    | true =>
      obtain ⟨hn0, hn1⟩ := there_range h.ok hth
      obtain ⟨m, rfl⟩ := Int.eq_ofNat_of_zero_le hn0
      have hm : m < 16 := by omega
      obtain ⟨fa, fb, hf⟩ : ∃ fa fb, (M.files m).getD noFile = (fa, fb) := ⟨_, _, rfl⟩
      have hsm := h.ok.small hn0 hn1 hf
      have hus := h.ok.used
      have hr1 := h.ok.room1
      cases hst : M.steps with
      | false =>
        go_enter Try.func32, Try.ntmps32
        go_wp2_with (first
          | (go_at_call 37; refine (rhas_at _ r M m hm h true hth).mono ?_; rintro e w1 ⟨rfl, rfl⟩)
          | (go_at_call 44; refine (rstep_at _ r M h hoff).mono ?_; rintro e w2 ⟨rfl, hd2, ho2⟩))
        go_ret
        exact ⟨by simp [DM.syncE, hoff, hth, hst], by simpa [DM.sync, hoff, hth, hst] using hd2, ho2⟩
      | true =>
        go_enter Try.func32, Try.ntmps32
        go_wp2_with (first
          | (go_at_call 37; refine (rhas_at _ r M m hm h true hth).mono ?_; rintro e w1 ⟨rfl, rfl⟩)
          | (go_at_call 44; refine (rstep_at _ r M h hoff).mono ?_; rintro e w2 ⟨rfl, hd2, ho2⟩; have k0 := hd2.cFirm hm; rw [stepped_files, hf] at k0; have k1 := hd2.cSoft hm; rw [stepped_files, hf] at k1; have f1 := hd2.free m; have f2 := hd2.free (16 + m)))
        have hcat : (9223372036854775807 < fa.size + fb.size) = False := by simp; omega
        refine wp_region_tail 16 (by kernel_rfl) (by kernel_rfl) ?_
        simp only [List.take_succ_cons, List.take_zero, List.drop_succ_cons, List.drop_zero]
        repeat still_step
        refine wpStill_nil ?_
        clear hcat
        go_wp2
        go_ret
        have hok : DM.Ok { M.stepped with files := M.files.put m (fa ++ fb, ByteArray.empty) } := by
          have := hd2.ok.put (n := (m : Int)) (f := (fa ++ fb, ByteArray.empty)) hn0 hn1 (by
            rw [stepped_files, stepped_room, getD_fsz hf, show (M.stepped).used = M.used from by unfold DM.used; rw [stepped_files]]
            simp only [ByteArray.size_append, ByteArray.size_empty]
            omega)
          rw [stepped_files] at this
          exact this
        obtain ⟨_, cs, fi, so, th, hb, hc, hsay⟩ := hd2
        rw [stepped_files] at hsay
        have hth2 : th m = true := by rw [hsay.there m hm, hth]
        have hsay2 := hsay.put m (fa ++ fb) ByteArray.empty
        rw [upd_same hth2] at hsay2
        refine ⟨by simp [DM.syncE, hoff, hth, hst], ?_, ?_⟩
        · have e : M.sync m = { M.stepped with files := M.files.put m (fa ++ fb, ByteArray.empty) } := by simp [DM.sync, hoff, hth, hst, hf]
          rw [e]
          exact ⟨hok, _, _, _, th, ((hb.setCell m _).setCell (16 + m) _).drew, (hc.setFirm hm _).setSoft hm _, hsay2⟩
        · exact ((ho2.setCell (fun _ => rfl) _).setCell (fun _ => rfl) _).drew

def RRemEnd (M : DM) (n : Int) (r : Nat) (w : World) (e : Ending) (w' : World) : Prop :=
  e = .returned (.int .i64 (M.removeE n)) ∧ RefAt w' r (M.remove n) ∧ Only (fun k => k = r) w w'

theorem rremove_at (w : World) (r : Nat) (M : DM) (n : Int) (h : RefAt w r M) :
    Calls Try.prog 34 #[.pointer (some ⟨r, 0, none⟩), .int .i64 n] w (RRemEnd M n r w) := by
  have c := h.cOff
  cases hoff : M.off with
  | true =>
    rw [hoff] at c
    go_enter Try.func34, Try.ntmps34
    go_wp2
    go_ret
    exact ⟨by simp [DM.removeE, hoff], by simpa [DM.remove, hoff] using h, Only.refl _ _⟩
  | false =>
    rw [hoff] at c
    cases hth : (M.files n).isSome with
    | false =>
      go_enter Try.func34, Try.ntmps34
      go_wp2_with (first | (go_at_call 37; refine (rhas_gone _ r M n h hth).mono ?_; rintro e w1 ⟨rfl, rfl⟩))
      go_ret
      exact ⟨by simp [DM.removeE, hoff, hth], by simpa [DM.remove, hoff, hth] using h, Only.refl _ _⟩
    | true =>
      obtain ⟨hn0, hn1⟩ := there_range h.ok hth
      obtain ⟨m, rfl⟩ := Int.eq_ofNat_of_zero_le hn0
      have hm : m < 16 := by omega
      cases hst : M.steps with
      | false =>
        go_enter Try.func34, Try.ntmps34
        go_wp2_with (first
          | (go_at_call 37; refine (rhas_at _ r M m hm h true hth).mono ?_; rintro e w1 ⟨rfl, rfl⟩)
          | (go_at_call 44; refine (rstep_at _ r M h hoff).mono ?_; rintro e w2 ⟨rfl, hd2, ho2⟩))
        go_ret
        exact ⟨by simp [DM.removeE, hoff, hth, hst], by simpa [DM.remove, hoff, hth, hst] using hd2, ho2⟩
      | true =>
        go_enter Try.func34, Try.ntmps34
        go_wp2_with (first
          | (go_at_call 37; refine (rhas_at _ r M m hm h true hth).mono ?_; rintro e w1 ⟨rfl, rfl⟩)
          | (go_at_call 44; refine (rstep_at _ r M h hoff).mono ?_; rintro e w2 ⟨rfl, hd2, ho2⟩; have k0 := hd2.cFirm hm; have k1 := hd2.cSoft hm; have k2 := hd2.cThere hm; have f0 := hd2.free m; have f1 := hd2.free (16 + m); have f2 := hd2.free (32 + m)))
        go_ret
        have hok : DM.Ok { M.stepped with files := M.files.del m } := by
          have := hd2.ok.del (n := (m : Int)) hn0 hn1
          rw [stepped_files] at this
          exact this
        obtain ⟨_, cs, fi, so, th, hb, hc, hsay⟩ := hd2
        rw [stepped_files] at hsay
        have hsay2 := hsay.del m
        refine ⟨by simp [DM.removeE, hoff, hth, hst], ?_, ?_⟩
        · have e : M.remove m = { M.stepped with files := M.files.del m } := by simp [DM.remove, hoff, hth, hst]
          rw [e]
          exact ⟨hok, _, _, _, _, ((hb.setCell m _).setCell (16 + m) _).setCell (32 + m) _, ((hc.setFirm hm _).setSoft hm _).setThere hm _, hsay2⟩
        · exact (((ho2.setCell (fun _ => rfl) _).setCell (fun _ => rfl) _).setCell (fun _ => rfl) _)

theorem rread_at (w : World) (r : Nat) (M : DM) (n : Int) (h : RefAt w r M) :
    Calls Try.prog 22 #[.pointer (some ⟨r, 0, none⟩), .int .i64 n] w fun e w' => e = .returned (.tuple #[.string (M.read n), .int .i64 (M.readE n)]) ∧ Only NoBlock w w' := by
  have c := h.cOff
  cases hoff : M.off with
  | true =>
    rw [hoff] at c
    go_enter Try.func22, Try.ntmps22
    go_wp2
    go_ret2
    exact ⟨by simp [DM.read, DM.readE, hoff]; rfl, Only.refl _ _⟩
  | false =>
    rw [hoff] at c
    cases hth : (M.files n).isSome with
    | false =>
      go_enter Try.func22, Try.ntmps22
      go_wp2_with (first | (go_at_call 37; refine (rhas_gone _ r M n h hth).mono ?_; rintro e w1 ⟨rfl, rfl⟩))
      go_ret2
      exact ⟨by simp [DM.read, DM.readE, hoff, hth]; rfl, Only.refl _ _⟩
    | true =>
      obtain ⟨hn0, hn1⟩ := there_range h.ok hth
      obtain ⟨m, rfl⟩ := Int.eq_ofNat_of_zero_le hn0
      have hm : m < 16 := by omega
      obtain ⟨fa, fb, hf⟩ : ∃ fa fb, (M.files m).getD noFile = (fa, fb) := ⟨_, _, rfl⟩
      have hsm := h.ok.small hn0 hn1 hf
      have hus := h.ok.used
      have hr1 := h.ok.room1
      have k0 := h.cFirm hm
      have k1 := h.cSoft hm
      rw [hf] at k0 k1
      simp only at k0 k1
      have hcat : (9223372036854775807 < fa.size + fb.size) = False := by simp; omega
      go_enter Try.func22, Try.ntmps22
      go_wp2_with (first | (go_at_call 37; refine (rhas_at _ r M m hm h true hth).mono ?_; rintro e w1 ⟨rfl, rfl⟩))
      go_quiet (fail)
      clear hcat
      go_wp2
      go_ret2
      exact ⟨by simp [DM.read, DM.readE, hoff, hth, hf], (Only.refl _ _).drewN _⟩

def RRepEnd (M : DM) (n : Int) (s : ByteArray) (r : Nat) (w : World) (e : Ending) (w' : World) : Prop :=
  e = .returned (.int .i64 (M.replaceE n s)) ∧ RefAt w' r (M.replace n s) ∧ Only (fun k => k = r) w w'

theorem rreplace_at (w : World) (r : Nat) (M : DM) (n : Int) (s : ByteArray) (h : RefAt w r M) (hs : s.size ≤ 4611686018427387904) :
    Calls Try.prog 33 #[.pointer (some ⟨r, 0, none⟩), .int .i64 n, .string s] w (RRepEnd M n s r w) := by
  by_cases hn : n < 0 ∨ 16 ≤ n
  · have HN := Lib.hid hn
    go_enter Try.func33, Try.ntmps33
    go_wp2_with (first | (go_at_call 43; refine (rno_yes _ _ (by omega)).mono ?_; rintro e w1 ⟨rfl, rfl⟩))
    go_ret
    exact ⟨by simp [DM.replaceE, HN.out], by simpa [DM.replace, HN.out] using h, Only.refl _ _⟩
  · have hn0 : 0 ≤ n := by omega
    have hn1 : n < 16 := by omega
    have c := h.cOff
    have HN := Lib.hid hn
    clear hn
    cases hoff : M.off with
    | true =>
      rw [hoff] at c
      go_enter Try.func33, Try.ntmps33
      go_wp2_with (first | (go_at_call 43; refine (rno_no _ _ hn0 hn1).mono ?_; rintro e w1 ⟨rfl, rfl⟩))
      go_ret
      exact ⟨by simp [DM.replaceE, HN.out, hoff], by simpa [DM.replace, HN.out, hoff] using h, Only.refl _ _⟩
    | false =>
      rw [hoff] at c
      obtain ⟨m, rfl⟩ := Int.eq_ofNat_of_zero_le hn0
      have hm : m < 16 := by omega
      obtain ⟨fa, fb, hf⟩ : ∃ fa fb, (M.files m).getD noFile = (fa, fb) := ⟨_, _, rfl⟩
      have hfz := getD_fsz hf
      have hsm := h.ok.small hn0 hn1 hf
      have k0 := h.cFirm hm
      have k1 := h.cSoft hm
      rw [hf] at k0 k1
      simp only at k0 k1
      have cr := h.cRoom
      have r0 := h.ok.room0
      have r1 := h.ok.room1
      have ru := h.ok.used
      have hw1 : IntKind.i64.wrap ((M.used : Int) - (fa.size : Int)) = (M.used : Int) - (fa.size : Int) := IntWalk.i64_in _ (by omega)
      have hw2 : IntKind.i64.wrap ((M.used : Int) - (fa.size : Int) - (fb.size : Int)) = (M.used : Int) - (fa.size : Int) - (fb.size : Int) := IntWalk.i64_in _ (by omega)
      have hw3 : IntKind.i64.wrap ((M.used : Int) - (fa.size : Int) - (fb.size : Int) + (s.size : Int)) = (M.used : Int) - (fa.size : Int) - (fb.size : Int) + (s.size : Int) := IntWalk.i64_in _ (by omega)
      have HZ := Lib.hid hfz
      by_cases hfull : M.room + fsz (M.files m) < M.used + s.size
      · have hfull2 : M.room < (M.used : Int) - (fa.size : Int) - (fb.size : Int) + (s.size : Int) := by omega
        have HF := Lib.hid hfull
        clear hfull hfz
        go_enter Try.func33, Try.ntmps33
        go_wp2_with (first | (go_at_call 43; refine (rno_no _ _ hn0 hn1).mono ?_; rintro e w1 ⟨rfl, rfl⟩))
        go_quiet ((go_at_call 23; exact Calls.quiet_of (rused_at _ r M (h.drewN _))))
        clear hw1 hw2 hw3
        go_wp2
        go_ret
        exact ⟨by simp [DM.replaceE, HN.out, hoff, HF.out], by simpa [DM.replace, HN.out, hoff, HF.out] using h.drewN _, (Only.refl _ _).drewN _⟩
      · have hfit : (M.used : Int) - (fa.size : Int) - (fb.size : Int) + (s.size : Int) ≤ M.room := by omega
        clear hfull hfz
        cases hst : M.steps with
        | false =>
          go_enter Try.func33, Try.ntmps33
          go_wp2_with (first | (go_at_call 43; refine (rno_no _ _ hn0 hn1).mono ?_; rintro e w1 ⟨rfl, rfl⟩))
          go_quiet ((go_at_call 23; exact Calls.quiet_of (rused_at _ r M (h.drewN _))))
          clear hw1 hw2 hw3
          go_wp2_with (first | (go_at_call 44; refine (rstep_at _ r M (h.drewN _) hoff).mono ?_; rintro e w2 ⟨rfl, hd2, ho2⟩))
          go_ret
          have hnf : ¬ (M.room + fsz (M.files m) < M.used + s.size) := by have := HZ.out; omega
          exact ⟨by simp [DM.replaceE, HN.out, hoff, hnf, hst], by simpa [DM.replace, HN.out, hoff, hnf, hst] using hd2, ((Only.refl _ _).drewN _).trans ho2⟩
        | true =>
          go_enter Try.func33, Try.ntmps33
          go_wp2_with (first | (go_at_call 43; refine (rno_no _ _ hn0 hn1).mono ?_; rintro e w1 ⟨rfl, rfl⟩))
          go_quiet ((go_at_call 23; exact Calls.quiet_of (rused_at _ r M (h.drewN _))))
          clear hw1 hw2 hw3
          go_wp2_with (first
            | (go_at_call 44; refine (rstep_at _ r M (h.drewN _) hoff).mono ?_; rintro e w2 ⟨rfl, hd2, ho2⟩; have k0 := hd2.cFirm hm; have k1 := hd2.cSoft hm; have k2 := hd2.cThere hm; have f0 := hd2.free m; have f1 := hd2.free (16 + m); have f2 := hd2.free (32 + m)))
          go_ret
          have hnf : ¬ (M.room + fsz (M.files m) < M.used + s.size) := by have := HZ.out; omega
          have hok : DM.Ok { M.stepped with files := M.files.put m (s, ByteArray.empty) } := by
            have := hd2.ok.put (n := (m : Int)) (f := (s, ByteArray.empty)) hn0 hn1 (by
              rw [stepped_files, stepped_room, show (M.stepped).used = M.used from by unfold DM.used; rw [stepped_files]]
              simp only [ByteArray.size_empty]
              omega)
            rw [stepped_files] at this
            exact this
          obtain ⟨_, cs, fi, so, th, hb, hc, hsay⟩ := hd2
          rw [stepped_files] at hsay
          refine ⟨by simp [DM.replaceE, HN.out, hoff, hnf, hst], ?_, ?_⟩
          · have e : M.replace m s = { M.stepped with files := M.files.put m (s, ByteArray.empty) } := by simp [DM.replace, HN.out, hoff, hnf, hst]
            rw [e]
            exact ⟨hok, _, _, _, _, ((hb.setCell m _).setCell (16 + m) _).setCell (32 + m) _, ((hc.setFirm hm _).setSoft hm _).setThere hm _, hsay.put m s ByteArray.empty⟩
          · exact ((((((Only.refl (fun k => k = r) w).drewN nq).trans ho2).setCell (fun _ => rfl) _).setCell (fun _ => rfl) _).setCell (fun _ => rfl) _)

end Go.Proofs.Ytdinkbmajcpnbaa
