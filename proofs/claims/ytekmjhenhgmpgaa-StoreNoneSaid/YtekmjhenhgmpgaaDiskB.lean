/- The disk's call Append. -/
import Derived.Test.YtekmjhenhgmpgaaDisk
namespace Go.Proofs.Ytekmjhenhgmpgaa
open Go.RowKit Go.Maps
set_option maxRecDepth 100000

def AppEnd (M : DM) (n : Int) (s : ByteArray) (d mb : Nat) (w : World) (e : Ending) (w' : World) : Prop :=
  e = .returned (.int .i64 (M.appendE n s)) ∧ DiskAt w' d mb (M.append n s) ∧ Only (fun k => k = d ∨ k = mb) w w'

theorem append_arg (w : World) (d mb : Nat) (M : DM) (n : Int) (s : ByteArray) (h : DiskAt w d mb M) (hn : n < 0 ∨ 16 ≤ n) :
    Calls Try.prog 76 #[.pointer (some ⟨d, 0, none⟩), .int .i64 n, .string s] w (AppEnd M n s d mb w) := by
  rcases hn with hn | hn
  · go_enter Try.func76, Try.ntmps76
    go_wp2
    go_ret
    exact ⟨by simp [DM.appendE, hn], by simpa [DM.append, hn] using h, Only.refl _ _⟩
  · have hn' : ¬ n < 0 := by omega
    go_enter Try.func76, Try.ntmps76
    go_wp2
    go_ret
    exact ⟨by simp [DM.appendE, hn], by simpa [DM.append, hn] using h, Only.refl _ _⟩

theorem append_off (w : World) (d mb : Nat) (M : DM) (n : Int) (s : ByteArray) (h : DiskAt w d mb M) (hn0 : 0 ≤ n) (hn1 : n < 16) (hoff : M.off = true) :
    Calls Try.prog 76 #[.pointer (some ⟨d, 0, none⟩), .int .i64 n, .string s] w (AppEnd M n s d mb w) := by
  have hx : ¬ (n < 0 ∨ 16 ≤ n) := by omega
  have HX := Lib.hid hx
  clear hx
  go_enter Try.func76, Try.ntmps76
  go_wp2_with (first | (go_at_call 30; refine (off_at _ d mb M h).mono ?_; rintro e w1 ⟨rfl, rfl⟩))
  go_ret
  exact ⟨by simp [DM.appendE, HX.out, hoff], by simpa [DM.append, HX.out, hoff] using h, Only.refl _ _⟩

theorem append_full (w : World) (d mb : Nat) (M : DM) (n : Int) (s : ByteArray) (h : DiskAt w d mb M) (hn0 : 0 ≤ n) (hn1 : n < 16) (hoff : M.off = false) (hs : s.size ≤ 9223372036854775807) (hfull : M.room < M.used + s.size) :
    Calls Try.prog 76 #[.pointer (some ⟨d, 0, none⟩), .int .i64 n, .string s] w (AppEnd M n s d mb w) := by
  have hx : ¬ (n < 0 ∨ 16 ≤ n) := by omega
  have HX := Lib.hid hx
  clear hx
  have r0 := h.ok.room0
  have r1 := h.ok.room1
  have ru := h.ok.used
  have c1 := h.room_cell
  go_enter Try.func76, Try.ntmps76
  go_wp2_with (first | (go_at_call 30; refine (off_at _ d mb M h).mono ?_; rintro e w1 ⟨rfl, rfl⟩))
  have hsub : IntKind.i64.wrap (M.room - (M.used : Int)) = M.room - (M.used : Int) := IntWalk.i64_in _ (by omega)
  go_region_held3 (fun w' => w'.cell? ⟨d, 1, none⟩ = some (.int .i64 M.room) ∧ DiskAt w' d mb M ∧ Only NoBlock w w')
    (first | exact ⟨c1, h.drew, (Only.refl _ _).drew⟩ | exact ⟨by assumption, by assumption, by assumption⟩ | go_keep)
    (first | (go_at_call 31; refine (used_held (M := M) (mb := mb) (w0 := w) ?_).mono ?_; (assumption); rintro e w1 ⟨rfl, c2, hd1, ho2⟩))
  clear hsub
  go_wp2
  go_ret
  exact ⟨by simp [DM.appendE, HX.out, hoff, hfull], by simpa [DM.append, HX.out, hoff, hfull] using hd1, ho2.of_no⟩

theorem append_dry (w : World) (d mb : Nat) (M : DM) (n : Int) (s : ByteArray) (h : DiskAt w d mb M) (hn0 : 0 ≤ n) (hn1 : n < 16) (hoff : M.off = false) (hfull : M.used + s.size ≤ M.room) (hst : M.steps = false) :
    Calls Try.prog 76 #[.pointer (some ⟨d, 0, none⟩), .int .i64 n, .string s] w (AppEnd M n s d mb w) := by
  have hx : ¬ (n < 0 ∨ 16 ≤ n) := by omega
  have HX := Lib.hid hx
  clear hx
  have r0 := h.ok.room0
  have r1 := h.ok.room1
  have ru := h.ok.used
  have c1 := h.room_cell
  go_enter Try.func76, Try.ntmps76
  go_wp2_with (first | (go_at_call 30; refine (off_at _ d mb M h).mono ?_; rintro e w1 ⟨rfl, rfl⟩))
  have hsub : IntKind.i64.wrap (M.room - (M.used : Int)) = M.room - (M.used : Int) := IntWalk.i64_in _ (by omega)
  go_region_held3 (fun w' => w'.cell? ⟨d, 1, none⟩ = some (.int .i64 M.room) ∧ DiskAt w' d mb M ∧ Only NoBlock w w')
    (first | exact ⟨c1, h.drew, (Only.refl _ _).drew⟩ | exact ⟨by assumption, by assumption, by assumption⟩ | go_keep)
    (first | (go_at_call 31; refine (used_held (M := M) (mb := mb) (w0 := w) ?_).mono ?_; (assumption); rintro e w1 ⟨rfl, c2, hd1, ho2⟩))
  clear hsub
  go_wp2_with (first | (go_at_call 32; refine (step_at _ d mb M hd1).mono ?_; rintro e w2 ⟨rfl, hd2, ho3⟩))
  go_ret
  have hnf : ¬ (M.room < M.used + s.size) := by omega
  exact ⟨by simp [DM.appendE, HX.out, hoff, hnf, hst], by simpa [DM.append, HX.out, hoff, hnf, hst] using hd2, ho2.of_no.trans ho3⟩

theorem append_go (w : World) (d mb : Nat) (M : DM) (n : Int) (s : ByteArray) (h : DiskAt w d mb M) (hn0 : 0 ≤ n) (hn1 : n < 16) (hoff : M.off = false) (hfull : M.used + s.size ≤ M.room) (hst : M.steps = true) :
    Calls Try.prog 76 #[.pointer (some ⟨d, 0, none⟩), .int .i64 n, .string s] w (AppEnd M n s d mb w) := by
  have hx : ¬ (n < 0 ∨ 16 ≤ n) := by omega
  have HX := Lib.hid hx
  clear hx
  have r0 := h.ok.room0
  have r1 := h.ok.room1
  have ru := h.ok.used
  have c1 := h.room_cell
  obtain ⟨fa, fb, hf⟩ : ∃ fa fb, (M.files n).getD noFile = (fa, fb) := ⟨_, _, rfl⟩
  have hsm := h.ok.small hn0 hn1 hf
  go_enter Try.func76, Try.ntmps76
  go_wp2_with (first | (go_at_call 30; refine (off_at _ d mb M h).mono ?_; rintro e w1 ⟨rfl, rfl⟩))
  have hsub : IntKind.i64.wrap (M.room - (M.used : Int)) = M.room - (M.used : Int) := IntWalk.i64_in _ (by omega)
  go_region_held3 (fun w' => w'.cell? ⟨d, 1, none⟩ = some (.int .i64 M.room) ∧ DiskAt w' d mb M ∧ Only NoBlock w w')
    (first | exact ⟨c1, h.drew, (Only.refl _ _).drew⟩ | exact ⟨by assumption, by assumption, by assumption⟩ | go_keep)
    (first | (go_at_call 31; refine (used_held (M := M) (mb := mb) (w0 := w) ?_).mono ?_; (assumption); rintro e w1 ⟨rfl, c2, hd1, ho2⟩))
  clear hsub
  go_wp2_with (first
    | (go_at_call 32; refine (step_at _ d mb M hd1).mono ?_; rintro e w2 ⟨rfl, hd2, ho3⟩; have c3 := hd2.map_cell; have hdl := hd2.blk.lt; have hfl := hd2.files; rw [stepped_files] at hfl)
    | (at_lookup; refine wpList_look_file1 rfl _ _ _ rfl Dk.law Dk.u_int Dk.u_map Dk.zfile hfl rfl n rfl (wf_small hn0 hn1) fa fb hf ?_))
  refine wp_region_tail 6 (by kernel_rfl) (by kernel_rfl) ?_
  simp only [List.take_succ_cons, List.take_zero, List.drop_succ_cons, List.drop_zero]
  repeat still_step
  try refine wpStill_nil ?_
  have hfd := hfl.keeps (S := NoBlock) (((Only.refl _ w2).alloc (Obj.cells #[Value.string fa, Value.string (fb ++ s)] 91)).drew) (fun h => h)
  go_wp2_with (first
    | (at_mapUpdate; refine wpList_store_file rfl _ _ _ _ rfl Dk.law Dk.u_int Dk.u_map hfd rfl n rfl hn0 hn1 fa (fb ++ s) rfl ?_; intro w3 hf3 hg3))
  go_ret
  have hnf : ¬ (M.room < M.used + s.size) := by omega
  have ho4 : Only (fun k => k = mb) w2 w3 := (((Only.refl _ w2).alloc _).drew).grown hg3 (fun k hk _ => by cases hk; rfl)
  have hok : DM.Ok { M.stepped with files := M.files.put n (fa, fb ++ s) } := by
    have := hd2.ok.put (n := n) (f := (fa, fb ++ s)) hn0 hn1 (by
      rw [stepped_files, stepped_room, getD_fsz hf, show (M.stepped).used = M.used from by unfold DM.used; rw [stepped_files]]
      simp only [ByteArray.size_append]
      omega)
    rw [stepped_files] at this
    exact this
  have hd3 := hd2.filed ho4 hf3 hok
  refine ⟨by simp [DM.appendE, HX.out, hoff, hnf, hst], ?_, (ho2.of_no.trans ho3).trans (ho4.mono (fun k hk => Or.inr hk))⟩
  have e : M.append n s = { M.stepped with files := M.files.put n (fa, fb ++ s) } := by simp [DM.append, HX.out, hoff, hnf, hst, hf]
  rw [e]; exact hd3

theorem append_at (w : World) (d mb : Nat) (M : DM) (n : Int) (s : ByteArray) (h : DiskAt w d mb M) (hs : s.size ≤ 9223372036854775807) :
    Calls Try.prog 76 #[.pointer (some ⟨d, 0, none⟩), .int .i64 n, .string s] w (AppEnd M n s d mb w) := by
  by_cases hn : n < 0 ∨ 16 ≤ n
  · exact append_arg w d mb M n s h hn
  · cases ho : M.off with
    | true => exact append_off w d mb M n s h (by omega) (by omega) ho
    | false =>
      by_cases hf : M.room < M.used + s.size
      · exact append_full w d mb M n s h (by omega) (by omega) ho hs hf
      · cases hst : M.steps with
        | false => exact append_dry w d mb M n s h (by omega) (by omega) ho (by omega) hst
        | true => exact append_go w d mb M n s h (by omega) (by omega) ho (by omega) hst

theorem append_nil (w : World) (n : Int) (s : ByteArray) :
    Calls Try.prog 76 #[.pointer none, .int .i64 n, .string s] w fun e w' => e = .returned (.int .i64 (if n < 0 ∨ 16 ≤ n then 1 else 10)) ∧ w = w' := by
  by_cases h1 : n < 0
  · go_enter Try.func76, Try.ntmps76
    go_wp2
    go_ret
    exact ⟨rfl, rfl⟩
  · by_cases h2 : 16 ≤ n
    · go_enter Try.func76, Try.ntmps76
      go_wp2
      go_ret
      exact ⟨rfl, rfl⟩
    · go_enter Try.func76, Try.ntmps76
      go_wp2_with (first | (go_at_call 30; refine (off_nil _).mono ?_; rintro e w1 ⟨rfl, rfl⟩))
      go_ret
      have hx : ¬ (n < 0 ∨ 16 ≤ n) := by omega
      exact ⟨rfl, rfl⟩

end Go.Proofs.Ytekmjhenhgmpgaa
