/- The disk of the program: what each of its functions answers, and what it leaves, is what the plain disk says. -/
import Derived.Test.YtekmjhenhgmpgaaProg
import Derived.Test.YtekmjhenhgmpgaaDm
import Derived.IntWalk
import Derived.Deep.RegionHeld3
namespace Go.Proofs.Ytekmjhenhgmpgaa
open Go.RowKit Go.Maps
set_option maxRecDepth 100000

namespace Dk
theorem u_int : Try.prog.underlying 3 = some (.int .i64) := by kernel_rfl
theorem u_map : Try.prog.underlying 83 = some (.map 3 91) := by kernel_rfl
theorem zfile (w : World) : (zeroValue 91).run Try.prog w = .ok (fileV noFile) w := by kernel_rfl
theorem law : Keyed Try.prog 3 := int_keyed u_int
end Dk

/-- block d is a disk, its map block mb, and it is M -/
structure DiskAt (w : World) (d mb : Nat) (M : DM) : Prop where
  blk : Blk w d #[.map (some mb), .int .i64 M.room, .int .i64 M.fuel, .bool M.off] 85
  files : FilesAt Try.prog 3 w mb M.files
  ok : M.Ok

theorem DiskAt.ne {w : World} {d mb : Nat} {M : DM} (h : DiskAt w d mb M) : d ≠ mb := by
  intro e
  obtain ⟨D, ⟨es, clock, hb, _⟩, _⟩ := h.files
  have := h.blk
  unfold Blk at this
  rw [e, hb] at this
  cases this
theorem DiskAt.keeps {S : Nat → Prop} {w w' : World} {d mb : Nat} {M : DM} (h : DiskAt w d mb M) (ho : Only S w w') (h1 : ¬ S d) (h2 : ¬ S mb) : DiskAt w' d mb M :=
  ⟨h.blk.keeps ho h1, h.files.keeps ho h2, h.ok⟩

theorem Blk.one {w : World} {o : Obj} {cs : Array Value} {t : TypeId} (h : o = .cells cs t) : Blk (w.alloc o) w.heap.size cs t := by subst h; exact Blk.made w cs t

theorem DiskAt.drew {w : World} {d mb : Nat} {M : DM} (h : DiskAt w d mb M) : DiskAt w.drew d mb M := ⟨h.blk, h.files, h.ok⟩
theorem DiskAt.room_cell {w : World} {d mb : Nat} {M : DM} (h : DiskAt w d mb M) : w.cell? ⟨d, 1, none⟩ = some (.int .i64 M.room) := by have := h.blk.cell 1; simpa using this
theorem DiskAt.map_cell {w : World} {d mb : Nat} {M : DM} (h : DiskAt w d mb M) : w.cell? ⟨d, 0, none⟩ = some (.map (some mb)) := by have := h.blk.cell 0; simpa using this

theorem new_ok (w : World) (room : Int) (h0 : 0 ≤ room) (h1 : room ≤ 1048576) :
    Calls Try.prog 10 #[.int .i64 room] w fun e w' => e = .returned (.tuple #[.pointer (some ⟨w.heap.size + 1, 0, none⟩), .int .i64 0]) ∧ DiskAt w' (w.heap.size + 1) w.heap.size (DM.new room) ∧ Only NoBlock w w' ∧ w'.heap.size = w.heap.size + 2 := by
  have hmm := @run_makeMap Try.prog
  go_enter Try.func10, Try.ntmps10
  go_wp2
  go_ret2
  have ho : Only NoBlock w (w.alloc (.map #[] 0)) := (Only.refl _ _).alloc _
  refine ⟨rfl, ⟨?_, ?_, ?_⟩, ho.alloc _, by simp⟩
  · have := Blk.made (w.alloc (.map #[] 0)) #[.map (some w.heap.size), .int .i64 room, .int .i64 (-1), .bool false] 85
    simpa [DM.new] using this
  · exact (FilesAt.made w Try.prog 3).keeps (S := NoBlock) ((Only.refl _ _).alloc _) (fun h => h)
  · refine ⟨h0, h1, ?_, by simp [DM.new], by simp [DM.new], fun x f h => by cases h⟩
    unfold DM.new DM.used
    rw [tot_none]; exact h0

theorem new_no (w : World) (room : Int) (h : room < 0 ∨ 1048576 < room) :
    Calls Try.prog 10 #[.int .i64 room] w fun e w' => e = .returned (.tuple #[.pointer none, .int .i64 1]) ∧ w = w' := by
  rcases h with h | h
  · go_enter Try.func10, Try.ntmps10
    go_wp2
    go_ret2
    exact ⟨rfl, rfl⟩
  · have h' : ¬ room < 0 := by omega
    go_enter Try.func10, Try.ntmps10
    go_wp2
    go_ret2
    exact ⟨rfl, rfl⟩

theorem off_at (w : World) (d mb : Nat) (M : DM) (h : DiskAt w d mb M) :
    Calls Try.prog 30 #[.pointer (some ⟨d, 0, none⟩)] w fun e w' => e = .returned (.bool M.off) ∧ w = w' := by
  have c3 := h.blk.cell 3
  simp at c3
  go_enter Try.func30, Try.ntmps30
  go_wp2
  go_ret
  exact ⟨rfl, rfl⟩

theorem off_nil (w : World) :
    Calls Try.prog 30 #[.pointer none] w fun e w' => e = .returned (.bool true) ∧ w = w' := by
  go_enter Try.func30, Try.ntmps30
  go_wp2
  go_ret
  exact ⟨rfl, rfl⟩

theorem fuel_nil (w : World) (n : Int) :
    Calls Try.prog 22 #[.pointer none, .int .i64 n] w fun e w' => e = .returned (.tuple #[]) ∧ w = w' := by
  go_enter Try.func22, Try.ntmps22
  go_wp2
  go_end0
  exact ⟨rfl, rfl⟩

theorem DM.Ok.with {M M' : DM} (h : M.Ok) (hr : M'.room = M.room) (hu : M'.files = M.files) (h0 : -1 ≤ M'.fuel) (h1 : M'.fuel ≤ 9223372036854775807) : M'.Ok :=
  ⟨by rw [hr]; exact h.room0, by rw [hr]; exact h.room1, by unfold DM.used; rw [hr, hu]; exact h.used, h0, h1, by rw [hu]; exact h.keys⟩
theorem Only.one {S : Nat → Prop} {w : World} {d i : Nat} (hd : S d) (v : Value) : Only S w (w.setCell ⟨d, i, none⟩ v) := (Only.refl _ _).setCell (fun _ => hd) v
theorem DiskAt.fueled {w : World} {d mb : Nat} {M : DM} (h : DiskAt w d mb M) (n : Int) (h0 : -1 ≤ n) (h1 : n ≤ 9223372036854775807) : DiskAt (w.setCell ⟨d, 2, none⟩ (.int .i64 n)) d mb { M with fuel := n } :=
  ⟨by have := h.blk.setCell 2 (.int .i64 n); simpa using this, h.files.keeps (S := fun k => k = d) (Only.one (S := fun k => k = d) rfl _) (fun e => h.ne e.symm), h.ok.with rfl rfl h0 h1⟩
theorem DiskAt.down {w : World} {d mb : Nat} {M : DM} (h : DiskAt w d mb M) : DiskAt (w.setCell ⟨d, 3, none⟩ (.bool true)) d mb { M with off := true } :=
  ⟨by have := h.blk.setCell 3 (.bool true); simpa using this, h.files.keeps (S := fun k => k = d) (Only.one (S := fun k => k = d) rfl _) (fun e => h.ne e.symm), h.ok.with rfl rfl h.ok.fuel0 h.ok.fuel1⟩

theorem fuel_at (w : World) (d mb : Nat) (M : DM) (n : Int) (hn : n ≤ 9223372036854775807) (h0 : DiskAt w d mb M) :
    Calls Try.prog 22 #[.pointer (some ⟨d, 0, none⟩), .int .i64 n] w fun e w' => e = .returned (.tuple #[]) ∧ DiskAt w' d mb (M.setFuel n) ∧ Only (fun k => k = d ∨ k = mb) w w' := by
  have c2 := h0.blk.cell 2
  have f2 := h0.blk.free 2
  simp at c2
  go_enter Try.func22, Try.ntmps22
  go_wp2
  all_goals go_end0
  · have hlt : n < -1 := by assumption
    refine ⟨rfl, ?_, Only.one (Or.inl rfl) _⟩
    simpa [DM.setFuel, hlt] using h0.fueled (-1) (by omega) (by omega)
  · have hlt : ¬ n < -1 := by have : -1 ≤ n := by assumption
                              omega
    refine ⟨rfl, ?_, Only.one (Or.inl rfl) _⟩
    simpa [DM.setFuel, hlt] using h0.fueled n (by omega) hn

theorem step_at (w : World) (d mb : Nat) (M : DM) (h : DiskAt w d mb M) :
    Calls Try.prog 32 #[.pointer (some ⟨d, 0, none⟩)] w fun e w' => e = .returned (.bool M.steps) ∧ DiskAt w' d mb M.stepped ∧ Only (fun k => k = d ∨ k = mb) w w' := by
  have c2 := h.blk.cell 2
  have f2 := h.blk.free 2
  have c3 := h.blk.cell 3
  have f3 := h.blk.free 3
  simp at c2 c3
  have hf0 := h.ok.fuel0
  have hf1 := h.ok.fuel1
  cases ho : M.off with
  | true => 
    rw [ho] at c3
    go_enter Try.func32, Try.ntmps32
    go_wp2
    go_ret
    refine ⟨by simp [DM.steps, ho], ?_, Only.refl _ _⟩
    simpa [DM.stepped, ho] using h
  | false =>
    rw [ho] at c3
    go_enter Try.func32, Try.ntmps32
    go_wp2
    all_goals go_ret
    · have hz : M.fuel = 0 := by have : (M.fuel == 0) = true := by assumption
                                 simpa using this
      refine ⟨by simp [DM.steps, ho, hz], ?_, Only.one (Or.inl rfl) _⟩
      simpa [DM.stepped, ho, hz] using h.down
    · have hz : 0 < M.fuel := by assumption
      have hz' : M.fuel ≠ 0 := by omega
      refine ⟨by simp [DM.steps, ho, hz'], ?_, Only.one (Or.inl rfl) _⟩
      simpa [DM.stepped, ho, hz, hz'] using h.fueled (M.fuel - 1) (by omega) (by omega)
    · have hz : M.fuel ≤ 0 := by assumption
      have hz' : M.fuel ≠ 0 := by have : (M.fuel == 0) = false := by assumption
                                  simpa using this
      refine ⟨by simp [DM.steps, ho, hz'], ?_, Only.refl _ _⟩
      have : ¬ 0 < M.fuel := by omega
      simpa [DM.stepped, ho, hz', this] using h

theorem used_nil (w : World) :
    Calls Try.prog 31 #[.pointer none] w fun e w' => e = .returned (.int .i64 0) ∧ w = w' := by
  go_enter Try.func31, Try.ntmps31
  go_wp2
  go_ret
  exact ⟨rfl, rfl⟩

def UsedEnd (M : DM) (d mb : Nat) (w : World) (e : Ending) (w' : World) : Prop := e = .returned (.int .i64 M.used) ∧ DiskAt w' d mb M ∧ Only NoBlock w w'
theorem used_at (w : World) (d mb : Nat) (M : DM) (h : DiskAt w d mb M) :
    Calls Try.prog 31 #[.pointer (some ⟨d, 0, none⟩)] w (UsedEnd M d mb w) := by
  have c0 := h.blk.cell 0
  simp at c0
  go_enter Try.func31, Try.ntmps31
  go_wp2_with (first
    | (at_range; refine wpList_range_files rfl _ _ rfl Dk.law Dk.u_map rfl h.files ?_; intro w0 cnt0 hg0 ho0 hs0)
    | go_in)
  go_frame
  go_loopw [3] (fun s wr => ∃ (L : Int → Bool) (cnt : Nat) (acc : Nat), s = .int .i64 acc ∧ Going Try.prog 3 wr mb w.heap.size M.files L cnt ∧ acc + tot (M.files.only L) 16 = tot M.files 16 ∧ Only NoBlock w wr)
    (fun _ wr => wr.rangeLeft mb w.heap.size)
  case atStart =>
    refine ⟨_, cnt0, 0, rfl, hg0, ?_, ho0⟩
    rw [Nat.zero_add]
    refine tot_same (fun i hi => ?_)
    unfold Fs.only
    cases hx : M.files i <;> simp [hx]
  case round =>
    obtain ⟨L, cnt, acc, rfl, hg, hacc, ho⟩ := hrel
    go_wp2_with (first
      | (at_next; refine wpList_next_files rfl _ rfl Dk.law Dk.u_int rfl hg ?_ ?_)
      | go_in)
    · intro hL
      have ht : tot (M.files.only L) 16 = 0 := by
        rw [tot_same (G := fun _ => none) (fun i _ => by unfold Fs.only; rw [hL]; rfl)]
        exact tot_none 16
      have HE0 : acc = M.used := by unfold DM.used; omega
      have HE := Lib.hid HE0
      clear HE0
      clear hacc ht
      go_wp2
      go_ret
      exact ⟨by rw [← HE.out]; rfl, h.keeps ho (fun h => h) (fun h => h), ho⟩
    · intro x fa fb w1 cnt1 hF hLx hx0 hx1 hg1 hlt ho1 hs1 hen
      have hst := tot_strike hx0 hx1 hF hLx
      have hle := fsz_le hx0 hx1 hF
      have hu := h.ok.used
      have hr1 := h.ok.room1
      unfold DM.used at hu
      have ho2 : Only NoBlock w w1 := ho.andThen ho1 (fun i hi e => by omega)
      simp only at hst hle
      have HA := Lib.hid hacc
      have HS := Lib.hid hst
      have hb : acc + (fa.size + fb.size) ≤ 1048576 := by omega
      clear hacc hst hle hu hr1 hF hLx
      go_wp2
      go_roundw
      case rel =>
        refine ⟨strike L x, cnt1, acc + (fa.size + fb.size), by go_num, ?_, ?_, ?_⟩
        · exact hg1.keeps (S := NoBlock) ((Only.refl _ _).alloc _) (fun h => h) (fun h => h)
        · have := HA.out; have := HS.out; omega
        · exact ho2.alloc _
      case measure =>
        have hg2 := hg1.keeps (S := NoBlock) ((Only.refl _ _).alloc (Obj.cells #[Value.string fa, Value.string fb] 91)) (fun h => h) (fun h => h)
        rw [hg2.left_eq, hg.left_eq]; exact hlt

theorem used_held {w w0 : World} {d mb : Nat} {M : DM} (h : w.cell? ⟨d, 1, none⟩ = some (.int .i64 M.room) ∧ DiskAt w d mb M ∧ Only NoBlock w0 w) :
    Calls Try.prog 31 #[.pointer (some ⟨d, 0, none⟩)] w (fun e w' => e = .returned (.int .i64 M.used) ∧ w'.cell? ⟨d, 1, none⟩ = some (.int .i64 M.room) ∧ DiskAt w' d mb M ∧ Only NoBlock w0 w') :=
  (used_at w d mb M h.2.1).mono fun _ _ ⟨he, hd1, ho1⟩ => ⟨he, hd1.room_cell, hd1, h.2.2.trans ho1⟩

theorem stepped_files (M : DM) : M.stepped.files = M.files := by unfold DM.stepped; split <;> (try split) <;> (try split) <;> rfl
theorem stepped_room (M : DM) : M.stepped.room = M.room := by unfold DM.stepped; split <;> (try split) <;> (try split) <;> rfl
theorem DM.Ok.put {M : DM} (h : M.Ok) {n : Int} {f : File} (h0 : 0 ≤ n) (h1 : n < 16) (hfit : (M.used : Int) + ((f.1.size + f.2.size : Nat) : Int) ≤ M.room + (fsz (M.files n) : Int)) : DM.Ok { M with files := M.files.put n f } := by
  have ht := tot_put (F := M.files) h0 h1 f
  refine ⟨h.room0, h.room1, ?_, h.fuel0, h.fuel1, fun x g hg => ?_⟩
  · show ((tot (M.files.put n f) 16 : Nat) : Int) ≤ M.room
    unfold DM.used at hfit
    omega
  · have hg' : (M.files.put n f) x = some g := hg
    unfold Fs.put at hg'
    by_cases e : x = n
    · omega
    · rw [if_neg e] at hg'; exact h.keys x g hg'
theorem DM.Ok.del {M : DM} (h : M.Ok) {n : Int} (h0 : 0 ≤ n) (h1 : n < 16) : DM.Ok { M with files := M.files.del n } := by
  have ht := tot_del (F := M.files) h0 h1
  have hu := h.used
  refine ⟨h.room0, h.room1, ?_, h.fuel0, h.fuel1, fun x g hg => ?_⟩
  · show ((tot (M.files.del n) 16 : Nat) : Int) ≤ M.room
    unfold DM.used at hu
    omega
  · have hg' : (M.files.del n) x = some g := hg
    unfold Fs.del at hg'
    by_cases e : x = n
    · rw [if_pos e] at hg'; cases hg'
    · rw [if_neg e] at hg'; exact h.keys x g hg'
theorem DiskAt.filed {w w' : World} {d mb : Nat} {M : DM} {F : Fs} (h : DiskAt w d mb M) (ho : Only (fun k => k = mb) w w') (hf : FilesAt Try.prog 3 w' mb F) (hk : DM.Ok { M with files := F }) : DiskAt w' d mb { M with files := F } :=
  ⟨h.blk.keeps ho (fun e => h.ne e), hf, hk⟩

theorem steps_of {M : DM} (h1 : M.off = false) (h2 : M.fuel ≠ 0) : M.steps = true := by simp [DM.steps, h1, h2]

end Go.Proofs.Ytekmjhenhgmpgaa
