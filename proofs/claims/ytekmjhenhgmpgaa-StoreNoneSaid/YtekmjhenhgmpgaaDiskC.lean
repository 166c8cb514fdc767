/- The disk's calls Sync, Remove, Read. -/
import Derived.Test.YtekmjhenhgmpgaaDiskB
namespace Go.Proofs.Ytekmjhenhgmpgaa
open Go.RowKit Go.Maps
set_option maxRecDepth 100000

def SynEnd (M : DM) (n : Int) (d mb : Nat) (w : World) (e : Ending) (w' : World) : Prop :=
  e = .returned (.int .i64 (M.syncE n)) ∧ DiskAt w' d mb (M.sync n) ∧ Only (fun k => k = d ∨ k = mb) w w'

theorem there_range {M : DM} (h : M.Ok) {n : Int} (hs : (M.files n).isSome = true) : 0 ≤ n ∧ n < 16 := by
  cases hx : M.files n with
  | none => rw [hx] at hs; cases hs
  | some f => exact h.keys n f hx

theorem local_file {w w2 : World} {d mb : Nat} {M : DM} (h : DiskAt w d mb M) (fa fb : ByteArray) (ho : Only (fun k => k = d ∨ k = mb) (w.alloc (Obj.cells #[Value.string fa, Value.string fb] 91)) w2) :
    Blk w2 w.heap.size #[.string fa, .string fb] 91 := by
  have h1 := h.blk.lt
  have h2 := h.files.lt
  refine (Blk.made w _ _).keeps ho ?_
  rintro (e | e) <;> omega

theorem sync_at (w : World) (d mb : Nat) (M : DM) (n : Int) (h : DiskAt w d mb M) (hw : (Lit.int .i64 n).wf = true) :
    Calls Try.prog 61 #[.pointer (some ⟨d, 0, none⟩), .int .i64 n] w (SynEnd M n d mb w) := by
  have c0 := h.map_cell
  have hdl := h.blk.lt
  cases hoff : M.off with
  | true =>
    go_enter Try.func61, Try.ntmps61
    go_wp2_with (first | (go_at_call 30; refine (off_at _ d mb M h).mono ?_; rintro e w1 ⟨rfl, rfl⟩))
    go_ret
    exact ⟨by simp [DM.syncE, hoff], by simpa [DM.sync, hoff] using h, Only.refl _ _⟩
  | false =>
    obtain ⟨fa, fb, hf⟩ : ∃ fa fb, (M.files n).getD noFile = (fa, fb) := ⟨_, _, rfl⟩
    cases hth : (M.files n).isSome with
    | false =>
      go_enter Try.func61, Try.ntmps61
      go_wp2_with (first
        | (go_at_call 30; refine (off_at _ d mb M h).mono ?_; rintro e w1 ⟨rfl, rfl⟩)
        | (at_lookup; refine wpList_look_file rfl _ _ _ rfl Dk.law Dk.u_int Dk.u_map Dk.zfile h.files rfl n rfl hw fa fb hf false hth ?_))
      go_ret
      have ho := (Only.refl NoBlock w).alloc (Obj.cells #[Value.string fa, Value.string fb] 91)
      exact ⟨by simp [DM.syncE, hoff, hth], by simpa [DM.sync, hoff, hth] using h.keeps ho (fun h => h) (fun h => h), ho.of_no⟩
    | true =>
      obtain ⟨hn0, hn1⟩ := there_range h.ok hth
      have hsm := h.ok.small hn0 hn1 hf
      have hus := h.ok.used
      have hr1 := h.ok.room1
      cases hst : M.steps with
      | false =>
        go_enter Try.func61, Try.ntmps61
        go_wp2_with (first
          | (go_at_call 30; refine (off_at _ d mb M h).mono ?_; rintro e w1 ⟨rfl, rfl⟩)
          | (at_lookup; refine wpList_look_file rfl _ _ _ rfl Dk.law Dk.u_int Dk.u_map Dk.zfile h.files rfl n rfl hw fa fb hf true hth ?_)
          | (go_at_call 32; refine (step_at _ d mb M (h.keeps ((Only.refl NoBlock w).alloc _) (fun h => h) (fun h => h))).mono ?_; rintro e w2 ⟨rfl, hd2, ho3⟩))
        go_ret
        have ho := (Only.refl (fun k => k = d ∨ k = mb) w).alloc (Obj.cells #[Value.string fa, Value.string fb] 91)
        exact ⟨by simp [DM.syncE, hoff, hth, hst], by simpa [DM.sync, hoff, hth, hst] using hd2, ho.trans ho3⟩
      | true =>
        go_enter Try.func61, Try.ntmps61
        go_wp2_with (first
          | (go_at_call 30; refine (off_at _ d mb M h).mono ?_; rintro e w1 ⟨rfl, rfl⟩)
          | (at_lookup; refine wpList_look_file rfl _ _ _ rfl Dk.law Dk.u_int Dk.u_map Dk.zfile h.files rfl n rfl hw fa fb hf true hth ?_)
          | (go_at_call 32; refine (step_at _ d mb M (h.keeps ((Only.refl NoBlock w).alloc _) (fun h => h) (fun h => h))).mono ?_; rintro e w2 ⟨rfl, hd2, ho3⟩))
        have hb := local_file h fa fb ho3
        have l0 : w2.cell? ⟨w.heap.size, 0, none⟩ = some (.string fa) := by have := hb.cell 0; simpa using this
        have l1 : w2.cell? ⟨w.heap.size, 1, none⟩ = some (.string fb) := by have := hb.cell 1; simpa using this
        have c3 := hd2.map_cell
        have hfl := hd2.files
        rw [stepped_files] at hfl
        have hcat : (9223372036854775807 < fa.size + fb.size) = False := by simp; omega
        clear hb
        refine wp_region_tail 11 (by kernel_rfl) (by kernel_rfl) ?_
        simp only [List.take_succ_cons, List.take_zero, List.drop_succ_cons, List.drop_zero]
        repeat still_step
        refine wpStill_nil ?_
        clear hcat
        go_wp2_with (first
          | (at_mapUpdate; refine wpList_store_file rfl _ _ _ _ rfl Dk.law Dk.u_int Dk.u_map (hfl.keeps (S := NoBlock) (Only.refl _ w2).drew (fun h => h)) rfl n rfl hn0 hn1 (fa ++ fb) ByteArray.empty rfl ?_; intro w3 hf3 hg3))
        go_ret
        have ho := (Only.refl (fun k => k = d ∨ k = mb) w).alloc (Obj.cells #[Value.string fa, Value.string fb] 91)
        have ho4 : Only (fun k => k = mb) w2 w3 := ((Only.refl _ w2).drew).grown hg3 (fun k hk _ => by cases hk; rfl)
        have hok : DM.Ok { M.stepped with files := M.files.put n (fa ++ fb, ByteArray.empty) } := by
          have := hd2.ok.put (n := n) (f := (fa ++ fb, ByteArray.empty)) hn0 hn1 (by
            rw [stepped_files, stepped_room, getD_fsz hf, show (M.stepped).used = M.used from by unfold DM.used; rw [stepped_files]]
            simp only [ByteArray.size_append, ByteArray.size_empty]
            omega)
          rw [stepped_files] at this
          exact this
        refine ⟨by simp [DM.syncE, hoff, hth, hst], ?_, (ho.trans ho3).trans (ho4.mono (fun k hk => Or.inr hk))⟩
        have e : M.sync n = { M.stepped with files := M.files.put n (fa ++ fb, ByteArray.empty) } := by simp [DM.sync, hoff, hth, hst, hf]
        rw [e]; exact hd2.filed ho4 hf3 hok

theorem sync_nil (w : World) (n : Int) :
    Calls Try.prog 61 #[.pointer none, .int .i64 n] w fun e w' => e = .returned (.int .i64 10) ∧ w = w' := by
  go_enter Try.func61, Try.ntmps61
  go_wp2_with (first | (go_at_call 30; refine (off_nil _).mono ?_; rintro e w1 ⟨rfl, rfl⟩))
  go_ret
  exact ⟨rfl, rfl⟩

def RemEnd (M : DM) (n : Int) (d mb : Nat) (w : World) (e : Ending) (w' : World) : Prop :=
  e = .returned (.int .i64 (M.removeE n)) ∧ DiskAt w' d mb (M.remove n) ∧ Only (fun k => k = d ∨ k = mb) w w'

theorem read_at (w : World) (d mb : Nat) (M : DM) (n : Int) (h : DiskAt w d mb M) (hw : (Lit.int .i64 n).wf = true) :
    Calls Try.prog 20 #[.pointer (some ⟨d, 0, none⟩), .int .i64 n] w fun e w' => e = .returned (.tuple #[.string (M.read n), .int .i64 (M.readE n)]) ∧ Only NoBlock w w' := by
  have c0 := h.map_cell
  have hdl := h.blk.lt
  cases hoff : M.off with
  | true =>
    go_enter Try.func20, Try.ntmps20
    go_wp2_with (first | (go_at_call 30; refine (off_at _ d mb M h).mono ?_; rintro e w1 ⟨rfl, rfl⟩))
    go_ret2
    exact ⟨by simp [DM.read, DM.readE, hoff]; rfl, Only.refl _ _⟩
  | false =>
    obtain ⟨fa, fb, hf⟩ : ∃ fa fb, (M.files n).getD noFile = (fa, fb) := ⟨_, _, rfl⟩
    have ho := (Only.refl NoBlock w).alloc (Obj.cells #[Value.string fa, Value.string fb] 91)
    cases hth : (M.files n).isSome with
    | false =>
      go_enter Try.func20, Try.ntmps20
      go_wp2_with (first
        | (go_at_call 30; refine (off_at _ d mb M h).mono ?_; rintro e w1 ⟨rfl, rfl⟩)
        | (at_lookup; refine wpList_look_file rfl _ _ _ rfl Dk.law Dk.u_int Dk.u_map Dk.zfile h.files rfl n rfl hw fa fb hf false hth ?_))
      go_ret2
      exact ⟨by simp [DM.read, DM.readE, hoff, hth]; rfl, ho⟩
    | true =>
      obtain ⟨hn0, hn1⟩ := there_range h.ok hth
      have hsm := h.ok.small hn0 hn1 hf
      have hus := h.ok.used
      have hr1 := h.ok.room1
      go_enter Try.func20, Try.ntmps20
      go_wp2_with (first
        | (go_at_call 30; refine (off_at _ d mb M h).mono ?_; rintro e w1 ⟨rfl, rfl⟩)
        | (at_lookup; refine wpList_look_file rfl _ _ _ rfl Dk.law Dk.u_int Dk.u_map Dk.zfile h.files rfl n rfl hw fa fb hf true hth ?_))
      go_ret2
      exact ⟨by simp [DM.read, DM.readE, hoff, hth, hf], ho⟩

theorem read_nil (w : World) (n : Int) :
    Calls Try.prog 20 #[.pointer none, .int .i64 n] w fun e w' => e = .returned (.tuple #[.string ByteArray.empty, .int .i64 10]) ∧ w = w' := by
  go_enter Try.func20, Try.ntmps20
  go_wp2_with (first | (go_at_call 30; refine (off_nil _).mono ?_; rintro e w1 ⟨rfl, rfl⟩))
  go_ret2
  exact ⟨rfl, rfl⟩

end Go.Proofs.Ytekmjhenhgmpgaa
