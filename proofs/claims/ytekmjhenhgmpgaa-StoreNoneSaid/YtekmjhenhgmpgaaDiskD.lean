/- The disk's calls Replace and Files. -/
import Derived.Test.YtekmjhenhgmpgaaDiskC
import Derived.Test.YtekmjhenhgmpgaaInts
namespace Go.Proofs.Ytekmjhenhgmpgaa
open Go.RowKit Go.Maps
set_option maxRecDepth 100000

def RepEnd (M : DM) (n : Int) (s : ByteArray) (d mb : Nat) (w : World) (e : Ending) (w' : World) : Prop :=
  e = .returned (.int .i64 (M.replaceE n s)) ∧ DiskAt w' d mb (M.replace n s) ∧ Only (fun k => k = d ∨ k = mb) w w'

theorem keeps_cell {S : Nat → Prop} {w w' : World} {a : Addr} {v : Value} (ho : Only S w w') (hs : ¬ S a.block) (h : w.cell? a = some v) : w'.cell? a = some v := by
  have hlt : a.block < w.heap.size := World.block_lt_of_cell? w a h
  exact (World.cell?_of_block (ho.block a.block hlt hs)).trans h

theorem used_held3 {w w0 : World} {d mb l : Nat} {fa fb : ByteArray} {M : DM} (h : w.cell? ⟨d, 1, none⟩ = some (.int .i64 M.room) ∧ w.cell? ⟨l, 0, none⟩ = some (.string fa) ∧ w.cell? ⟨l, 1, none⟩ = some (.string fb) ∧ DiskAt w d mb M ∧ Only NoBlock w0 w) :
    Calls Try.prog 31 #[.pointer (some ⟨d, 0, none⟩)] w (fun e w' => e = .returned (.int .i64 M.used) ∧ w'.cell? ⟨d, 1, none⟩ = some (.int .i64 M.room) ∧ w'.cell? ⟨l, 0, none⟩ = some (.string fa) ∧ w'.cell? ⟨l, 1, none⟩ = some (.string fb) ∧ DiskAt w' d mb M ∧ Only NoBlock w0 w') :=
  (used_at w d mb M h.2.2.2.1).mono fun _ _ ⟨he, hd1, ho1⟩ => ⟨he, hd1.room_cell, keeps_cell ho1 (fun h => h) h.2.1, keeps_cell ho1 (fun h => h) h.2.2.1, hd1, h.2.2.2.2.trans ho1⟩

theorem replace_arg (w : World) (d mb : Nat) (M : DM) (n : Int) (s : ByteArray) (h : DiskAt w d mb M) (hw : (Lit.int .i64 n).wf = true) (hn : n < 0 ∨ 16 ≤ n) :
    Calls Try.prog 12 #[.pointer (some ⟨d, 0, none⟩), .int .i64 n, .string s] w (RepEnd M n s d mb w) := by
  have c0 := h.map_cell
  have hdl := h.blk.lt
  obtain ⟨fa, fb, hf⟩ : ∃ fa fb, (M.files n).getD noFile = (fa, fb) := ⟨_, _, rfl⟩
  have ho := (Only.refl NoBlock w).alloc (Obj.cells #[Value.string fa, Value.string fb] 91)
  rcases hn with hn | hn
  · go_enter Try.func12, Try.ntmps12
    go_wp2_with (first
        | (at_lookup; refine wpList_look_file1 rfl _ _ _ rfl Dk.law Dk.u_int Dk.u_map Dk.zfile (h.files.keeps (S := NoBlock) ((Only.refl NoBlock w).alloc _) (fun h => h)) rfl n rfl hw fa fb hf ?_))
    go_ret
    exact ⟨by simp [DM.replaceE, hn], by simpa [DM.replace, hn] using h.keeps ho (fun h => h) (fun h => h), ho.of_no⟩
  · have hn' : ¬ n < 0 := by omega
    go_enter Try.func12, Try.ntmps12
    go_wp2_with (first
        | (at_lookup; refine wpList_look_file1 rfl _ _ _ rfl Dk.law Dk.u_int Dk.u_map Dk.zfile (h.files.keeps (S := NoBlock) ((Only.refl NoBlock w).alloc _) (fun h => h)) rfl n rfl hw fa fb hf ?_))
    go_ret
    exact ⟨by simp [DM.replaceE, hn], by simpa [DM.replace, hn] using h.keeps ho (fun h => h) (fun h => h), ho.of_no⟩

theorem replace_off (w : World) (d mb : Nat) (M : DM) (n : Int) (s : ByteArray) (h : DiskAt w d mb M) (hn0 : 0 ≤ n) (hn1 : n < 16) (hoff : M.off = true) :
    Calls Try.prog 12 #[.pointer (some ⟨d, 0, none⟩), .int .i64 n, .string s] w (RepEnd M n s d mb w) := by
  have c0 := h.map_cell
  have hdl := h.blk.lt
  have hx : ¬ (n < 0 ∨ 16 ≤ n) := by omega
  have HX := Lib.hid hx
  clear hx
  obtain ⟨fa, fb, hf⟩ : ∃ fa fb, (M.files n).getD noFile = (fa, fb) := ⟨_, _, rfl⟩
  have ho := (Only.refl NoBlock w).alloc (Obj.cells #[Value.string fa, Value.string fb] 91)
  have h1 := h.keeps ho (fun h => h) (fun h => h)
  go_enter Try.func12, Try.ntmps12
  go_wp2_with (first
    | (at_lookup; refine wpList_look_file1 rfl _ _ _ rfl Dk.law Dk.u_int Dk.u_map Dk.zfile (h.files.keeps (S := NoBlock) ((Only.refl NoBlock w).alloc _) (fun h => h)) rfl n rfl (wf_small hn0 hn1) fa fb hf ?_)
    | (go_at_call 30; refine (off_at _ d mb M h1).mono ?_; rintro e w1 ⟨rfl, rfl⟩))
  go_ret
  exact ⟨by simp [DM.replaceE, HX.out, hoff], by simpa [DM.replace, HX.out, hoff] using h1, ho.of_no⟩

theorem replace_full (w : World) (d mb : Nat) (M : DM) (n : Int) (s : ByteArray) (h : DiskAt w d mb M) (hn0 : 0 ≤ n) (hn1 : n < 16) (hoff : M.off = false) (hs : s.size ≤ 9223372036854775807) (hfull : M.room + fsz (M.files n) < M.used + s.size) :
    Calls Try.prog 12 #[.pointer (some ⟨d, 0, none⟩), .int .i64 n, .string s] w (RepEnd M n s d mb w) := by
  have c0 := h.map_cell
  have hdl := h.blk.lt
  have hx : ¬ (n < 0 ∨ 16 ≤ n) := by omega
  have HX := Lib.hid hx
  clear hx
  have HFull := Lib.hid hfull
  have r0 := h.ok.room0
  have r1 := h.ok.room1
  have ru := h.ok.used
  obtain ⟨fa, fb, hf⟩ : ∃ fa fb, (M.files n).getD noFile = (fa, fb) := ⟨_, _, rfl⟩
  have hsm := h.ok.small hn0 hn1 hf
  rw [getD_fsz hf] at hfull
  have ho := (Only.refl NoBlock w).alloc (Obj.cells #[Value.string fa, Value.string fb] 91)
  have h1 := h.keeps ho (fun h => h) (fun h => h)
  go_enter Try.func12, Try.ntmps12
  go_wp2_with (first
    | (at_lookup; refine wpList_look_file1 rfl _ _ _ rfl Dk.law Dk.u_int Dk.u_map Dk.zfile (h.files.keeps (S := NoBlock) ((Only.refl NoBlock w).alloc _) (fun h => h)) rfl n rfl (wf_small hn0 hn1) fa fb hf ?_)
    | (go_at_call 30; refine (off_at _ d mb M h1).mono ?_; rintro e w1 ⟨rfl, rfl⟩))
  have hsub : IntKind.i64.wrap (M.room - (M.used : Int)) = M.room - (M.used : Int) := IntWalk.i64_in _ (by omega)
  have hsub1 : IntKind.i64.wrap (M.room - (M.used : Int) + (fa.size : Int)) = M.room - (M.used : Int) + (fa.size : Int) := IntWalk.i64_in _ (by omega)
  have hsub2 : IntKind.i64.wrap (M.room - (M.used : Int) + (fa.size : Int) + (fb.size : Int)) = M.room - (M.used : Int) + (fa.size : Int) + (fb.size : Int) := IntWalk.i64_in _ (by omega)
  have k1 := h1.room_cell
  have l0 : (w.alloc (Obj.cells #[Value.string fa, Value.string fb] 91)).cell? ⟨w.heap.size, 0, none⟩ = some (.string fa) := by simp
  have l1 : (w.alloc (Obj.cells #[Value.string fa, Value.string fb] 91)).cell? ⟨w.heap.size, 1, none⟩ = some (.string fb) := by simp
  go_region_held3 (fun w' => w'.cell? ⟨d, 1, none⟩ = some (.int .i64 M.room) ∧ w'.cell? ⟨w.heap.size, 0, none⟩ = some (.string fa) ∧ w'.cell? ⟨w.heap.size, 1, none⟩ = some (.string fb) ∧ DiskAt w' d mb M ∧ Only NoBlock w w')
    (first | exact ⟨k1, l0, l1, h1.drew, ho.drew⟩ | exact ⟨by assumption, by assumption, by assumption, by assumption, by assumption⟩ | go_keep)
    (first | (go_at_call 31; refine (used_held3 (M := M) (mb := mb) (w0 := w) (l := w.heap.size) (fa := fa) (fb := fb) ?_).mono ?_; (assumption); rintro e w1 ⟨rfl, c2, l2, l3, hd1, ho2⟩))
  clear hsub hsub1 hsub2
  go_wp2
  go_ret
  exact ⟨by simp [DM.replaceE, HX.out, hoff, HFull.out], by simpa [DM.replace, HX.out, hoff, HFull.out] using hd1, ho2.of_no⟩

theorem replace_dry (w : World) (d mb : Nat) (M : DM) (n : Int) (s : ByteArray) (h : DiskAt w d mb M) (hn0 : 0 ≤ n) (hn1 : n < 16) (hoff : M.off = false) (hfull : ¬ (M.room + fsz (M.files n) < M.used + s.size)) (hst : M.steps = false) :
    Calls Try.prog 12 #[.pointer (some ⟨d, 0, none⟩), .int .i64 n, .string s] w (RepEnd M n s d mb w) := by
  have c0 := h.map_cell
  have hdl := h.blk.lt
  have hx : ¬ (n < 0 ∨ 16 ≤ n) := by omega
  have HX := Lib.hid hx
  clear hx
  have HFull := Lib.hid hfull
  have r0 := h.ok.room0
  have r1 := h.ok.room1
  have ru := h.ok.used
  obtain ⟨fa, fb, hf⟩ : ∃ fa fb, (M.files n).getD noFile = (fa, fb) := ⟨_, _, rfl⟩
  have hsm := h.ok.small hn0 hn1 hf
  rw [getD_fsz hf] at hfull
  have ho := (Only.refl NoBlock w).alloc (Obj.cells #[Value.string fa, Value.string fb] 91)
  have h1 := h.keeps ho (fun h => h) (fun h => h)
  go_enter Try.func12, Try.ntmps12
  go_wp2_with (first
    | (at_lookup; refine wpList_look_file1 rfl _ _ _ rfl Dk.law Dk.u_int Dk.u_map Dk.zfile (h.files.keeps (S := NoBlock) ((Only.refl NoBlock w).alloc _) (fun h => h)) rfl n rfl (wf_small hn0 hn1) fa fb hf ?_)
    | (go_at_call 30; refine (off_at _ d mb M h1).mono ?_; rintro e w1 ⟨rfl, rfl⟩))
  have hsub : IntKind.i64.wrap (M.room - (M.used : Int)) = M.room - (M.used : Int) := IntWalk.i64_in _ (by omega)
  have hsub1 : IntKind.i64.wrap (M.room - (M.used : Int) + (fa.size : Int)) = M.room - (M.used : Int) + (fa.size : Int) := IntWalk.i64_in _ (by omega)
  have hsub2 : IntKind.i64.wrap (M.room - (M.used : Int) + (fa.size : Int) + (fb.size : Int)) = M.room - (M.used : Int) + (fa.size : Int) + (fb.size : Int) := IntWalk.i64_in _ (by omega)
  have k1 := h1.room_cell
  have l0 : (w.alloc (Obj.cells #[Value.string fa, Value.string fb] 91)).cell? ⟨w.heap.size, 0, none⟩ = some (.string fa) := by simp
  have l1 : (w.alloc (Obj.cells #[Value.string fa, Value.string fb] 91)).cell? ⟨w.heap.size, 1, none⟩ = some (.string fb) := by simp
  go_region_held3 (fun w' => w'.cell? ⟨d, 1, none⟩ = some (.int .i64 M.room) ∧ w'.cell? ⟨w.heap.size, 0, none⟩ = some (.string fa) ∧ w'.cell? ⟨w.heap.size, 1, none⟩ = some (.string fb) ∧ DiskAt w' d mb M ∧ Only NoBlock w w')
    (first | exact ⟨k1, l0, l1, h1.drew, ho.drew⟩ | exact ⟨by assumption, by assumption, by assumption, by assumption, by assumption⟩ | go_keep)
    (first | (go_at_call 31; refine (used_held3 (M := M) (mb := mb) (w0 := w) (l := w.heap.size) (fa := fa) (fb := fb) ?_).mono ?_; (assumption); rintro e w1 ⟨rfl, c2, l2, l3, hd1, ho2⟩))
  clear hsub hsub1 hsub2
  go_wp2_with (first | (go_at_call 32; refine (step_at _ d mb M hd1).mono ?_; rintro e w2 ⟨rfl, hd2, ho3⟩))
  go_ret
  have hnf : ¬ (M.room + fsz (M.files n) < M.used + s.size) := by have := HFull.out; omega
  exact ⟨by simp [DM.replaceE, HX.out, hoff, hnf, hst], by simpa [DM.replace, HX.out, hoff, hnf, hst] using hd2, ho2.of_no.trans ho3⟩

theorem replace_go (w : World) (d mb : Nat) (M : DM) (n : Int) (s : ByteArray) (h : DiskAt w d mb M) (hn0 : 0 ≤ n) (hn1 : n < 16) (hoff : M.off = false) (hfull : ¬ (M.room + fsz (M.files n) < M.used + s.size)) (hst : M.steps = true) :
    Calls Try.prog 12 #[.pointer (some ⟨d, 0, none⟩), .int .i64 n, .string s] w (RepEnd M n s d mb w) := by
  have c0 := h.map_cell
  have hdl := h.blk.lt
  have hx : ¬ (n < 0 ∨ 16 ≤ n) := by omega
  have HX := Lib.hid hx
  clear hx
  have HFull := Lib.hid hfull
  have r0 := h.ok.room0
  have r1 := h.ok.room1
  have ru := h.ok.used
  obtain ⟨fa, fb, hf⟩ : ∃ fa fb, (M.files n).getD noFile = (fa, fb) := ⟨_, _, rfl⟩
  have hsm := h.ok.small hn0 hn1 hf
  rw [getD_fsz hf] at hfull
  have ho := (Only.refl NoBlock w).alloc (Obj.cells #[Value.string fa, Value.string fb] 91)
  have h1 := h.keeps ho (fun h => h) (fun h => h)
  go_enter Try.func12, Try.ntmps12
  go_wp2_with (first
    | (at_lookup; refine wpList_look_file1 rfl _ _ _ rfl Dk.law Dk.u_int Dk.u_map Dk.zfile (h.files.keeps (S := NoBlock) ((Only.refl NoBlock w).alloc _) (fun h => h)) rfl n rfl (wf_small hn0 hn1) fa fb hf ?_)
    | (go_at_call 30; refine (off_at _ d mb M h1).mono ?_; rintro e w1 ⟨rfl, rfl⟩))
  have hsub : IntKind.i64.wrap (M.room - (M.used : Int)) = M.room - (M.used : Int) := IntWalk.i64_in _ (by omega)
  have hsub1 : IntKind.i64.wrap (M.room - (M.used : Int) + (fa.size : Int)) = M.room - (M.used : Int) + (fa.size : Int) := IntWalk.i64_in _ (by omega)
  have hsub2 : IntKind.i64.wrap (M.room - (M.used : Int) + (fa.size : Int) + (fb.size : Int)) = M.room - (M.used : Int) + (fa.size : Int) + (fb.size : Int) := IntWalk.i64_in _ (by omega)
  have k1 := h1.room_cell
  have l0 : (w.alloc (Obj.cells #[Value.string fa, Value.string fb] 91)).cell? ⟨w.heap.size, 0, none⟩ = some (.string fa) := by simp
  have l1 : (w.alloc (Obj.cells #[Value.string fa, Value.string fb] 91)).cell? ⟨w.heap.size, 1, none⟩ = some (.string fb) := by simp
  go_region_held3 (fun w' => w'.cell? ⟨d, 1, none⟩ = some (.int .i64 M.room) ∧ w'.cell? ⟨w.heap.size, 0, none⟩ = some (.string fa) ∧ w'.cell? ⟨w.heap.size, 1, none⟩ = some (.string fb) ∧ DiskAt w' d mb M ∧ Only NoBlock w w')
    (first | exact ⟨k1, l0, l1, h1.drew, ho.drew⟩ | exact ⟨by assumption, by assumption, by assumption, by assumption, by assumption⟩ | go_keep)
    (first | (go_at_call 31; refine (used_held3 (M := M) (mb := mb) (w0 := w) (l := w.heap.size) (fa := fa) (fb := fb) ?_).mono ?_; (assumption); rintro e w1 ⟨rfl, c2, l2, l3, hd1, ho2⟩))
  clear hsub hsub1 hsub2
  go_wp2_with (first
    | (go_at_call 32; refine (step_at _ d mb M hd1).mono ?_; rintro e w2 ⟨rfl, hd2, ho3⟩; have c3 := hd2.map_cell; have hdl2 := hd2.blk.lt; have hfl := hd2.files; rw [stepped_files] at hfl)
    | (at_mapUpdate; refine wpList_store_file rfl _ _ _ _ rfl Dk.law Dk.u_int Dk.u_map hfl rfl n rfl hn0 hn1 s ByteArray.empty rfl ?_; intro w3 hf3 hg3))
  go_ret
  have hnf : ¬ (M.room + fsz (M.files n) < M.used + s.size) := by have := HFull.out; omega
  have ho4 : Only (fun k => k = mb) w2 w3 := (Only.refl _ w2).grown hg3 (fun k hk _ => by cases hk; rfl)
  have hok : DM.Ok { M.stepped with files := M.files.put n (s, ByteArray.empty) } := by
    have := hd2.ok.put (n := n) (f := (s, ByteArray.empty)) hn0 hn1 (by
      rw [stepped_files, stepped_room, show (M.stepped).used = M.used from by unfold DM.used; rw [stepped_files]]
      simp only [ByteArray.size_empty]
      omega)
    rw [stepped_files] at this
    exact this
  refine ⟨by simp [DM.replaceE, HX.out, hoff, hnf, hst], ?_, (ho2.of_no.trans ho3).trans (ho4.mono (fun k hk => Or.inr hk))⟩
  have e : M.replace n s = { M.stepped with files := M.files.put n (s, ByteArray.empty) } := by simp [DM.replace, HX.out, hoff, hnf, hst]
  rw [e]; exact hd2.filed ho4 hf3 hok

theorem replace_at (w : World) (d mb : Nat) (M : DM) (n : Int) (s : ByteArray) (h : DiskAt w d mb M) (hw : (Lit.int .i64 n).wf = true) (hs : s.size ≤ 9223372036854775807) :
    Calls Try.prog 12 #[.pointer (some ⟨d, 0, none⟩), .int .i64 n, .string s] w (RepEnd M n s d mb w) := by
  by_cases hn : n < 0 ∨ 16 ≤ n
  · exact replace_arg w d mb M n s h hw hn
  · cases ho : M.off with
    | true => exact replace_off w d mb M n s h (by omega) (by omega) ho
    | false =>
      by_cases hf : M.room + fsz (M.files n) < M.used + s.size
      · exact replace_full w d mb M n s h (by omega) (by omega) ho hs hf
      · cases hst : M.steps with
        | false => exact replace_dry w d mb M n s h (by omega) (by omega) ho hf hst
        | true => exact replace_go w d mb M n s h (by omega) (by omega) ho hf hst

theorem replace_nil (w : World) (n : Int) (s : ByteArray) :
    Calls Try.prog 12 #[.pointer none, .int .i64 n, .string s] w fun e w' => e = .returned (.int .i64 (if n < 0 ∨ 16 ≤ n then 1 else 10)) ∧ Only NoBlock w w' := by
  have ho := (Only.refl NoBlock w).alloc (Obj.cells #[Value.string ByteArray.empty, Value.string ByteArray.empty] 91)
  by_cases h1 : n < 0
  · go_enter Try.func12, Try.ntmps12
    go_wp2
    go_ret
    exact ⟨rfl, ho⟩
  · by_cases h2 : 16 ≤ n
    · go_enter Try.func12, Try.ntmps12
      go_wp2
      go_ret
      exact ⟨rfl, ho⟩
    · go_enter Try.func12, Try.ntmps12
      go_wp2_with (first | (go_at_call 30; refine (off_nil _).mono ?_; rintro e w1 ⟨rfl, rfl⟩))
      go_ret
      have hx : ¬ (n < 0 ∨ 16 ≤ n) := by omega
      exact ⟨rfl, ho⟩

/-! ### Files -/
def Fs.list (F : Fs) : Nat → List Int
  | 0 => []
  | k + 1 => Fs.list F k ++ (if (F k).isSome then [(k : Int)] else [])
theorem list_len (F : Fs) : ∀ k, (F.list k).length ≤ k
  | 0 => Nat.le_refl _
  | k + 1 => by
    have := list_len F k
    unfold Fs.list
    rw [List.length_append]
    split <;> simp <;> omega
theorem Dk.u_ints : Try.prog.underlying 73 = some (.slice 3) := by kernel_rfl
theorem Dk.info_int : (Try.prog.info? 3).map (fun i => (i.zero, i.size, i.bytes)) = some (some (.int .i64 0), 1, 8) := by kernel_rfl

def FilesEnd (M : DM) (d mb : Nat) (w : World) (e : Ending) (w' : World) : Prop :=
  ∃ v, e = .returned v ∧ Ints w' w.heap.size v (M.files.list 16) ∧ DiskAt w' d mb M ∧ Only NoBlock w w'
end Go.Proofs.Ytekmjhenhgmpgaa
