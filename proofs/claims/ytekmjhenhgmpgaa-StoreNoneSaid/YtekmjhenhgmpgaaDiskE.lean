/- The disk's call Crash. -/
import Derived.Test.YtekmjhenhgmpgaaDiskD
namespace Go.Proofs.Ytekmjhenhgmpgaa
open Go.RowKit Go.Maps

/-- how many of its soft bytes each file keeps -/
def keepOf (l : List Int) : Int → Int := fun x => l.getD x.toNat 0

theorem crash_nil (w : World) (v : Value) :
    Calls Try.prog 27 #[.pointer none, v] w fun e w' => e = .returned (.pointer none) ∧ w = w' := by
  go_enter Try.func27, Try.ntmps27
  go_wp2
  go_ret
  exact ⟨rfl, rfl⟩

def CrashEnd (M : DM) (l : List Int) (w : World) (e : Ending) (w' : World) : Prop :=
  e = .returned (.pointer (some ⟨w.heap.size + 1, 0, none⟩)) ∧ DiskAt w' (w.heap.size + 1) w.heap.size (M.crash (keepOf l)) ∧ Only NoBlock w w'

/-- what the new disk has when L is still to come -/
def Fs.crashed (F : Fs) (l : List Int) (L : Int → Bool) : Fs := fun x => if L x = true then none else match F x with | none => none | some f => leftFile f (keepOf l x)

theorem tot_le {F G : Fs} : ∀ {n : Nat}, (∀ i : Nat, i < n → fsz (G i) ≤ fsz (F i)) → tot G n ≤ tot F n
  | 0, _ => Nat.le_refl _
  | n + 1, h => by
    unfold tot
    have := tot_le (n := n) (fun i hi => h i (by omega))
    have := h n (by omega)
    omega
theorem leftFile_le (f : File) (k : Int) : fsz (leftFile f k) ≤ f.1.size + f.2.size := by
  unfold leftFile
  simp only
  split
  · simp [fsz]
  · simp only [fsz, ByteArray.size_append, ByteArray.size_empty, ByteArray.size_extract]
    omega
theorem crashed_le (F : Fs) (l : List Int) (L : Int → Bool) (x : Int) : fsz (F.crashed l L x) ≤ fsz (F x) := by
  unfold Fs.crashed
  split
  · exact Nat.zero_le _
  · cases hx : F x with
    | none => exact Nat.le_refl _
    | some f => exact leftFile_le f _
theorem crashed_ok {M : DM} (h : M.Ok) (l : List Int) (L : Int → Bool) : DM.Ok { files := M.files.crashed l L, room := M.room, fuel := -1, off := false } := by
  have hu := h.used
  have ht : tot (M.files.crashed l L) 16 ≤ tot M.files 16 := tot_le (fun i _ => crashed_le M.files l L i)
  refine ⟨h.room0, h.room1, ?_, by simp, by simp, fun x f hf => ?_⟩
  · show ((tot (M.files.crashed l L) 16 : Nat) : Int) ≤ M.room
    unfold DM.used at hu
    omega
  · have hf' : M.files.crashed l L x = some f := hf
    unfold Fs.crashed at hf'
    split at hf'
    · cases hf'
    · cases hx : M.files x with
      | none => rw [hx] at hf'; cases hf'
      | some g => exact h.keys x g hx

theorem crashed_gone {F : Fs} {l : List Int} {L : Int → Bool} {x : Int} {f : File} (hf : F x = some f) (hL : L x = true) (hg : leftFile f (keepOf l x) = none) : F.crashed l (strike L x) = F.crashed l L := by
  funext y
  unfold Fs.crashed strike
  by_cases e : y = x
  · subst e
    simp [hL, hf, hg]
  · simp [e]
theorem crashed_stay {F : Fs} {l : List Int} {L : Int → Bool} {x : Int} {f g : File} (hf : F x = some f) (hL : L x = true) (hg : leftFile f (keepOf l x) = some g) : F.crashed l (strike L x) = (F.crashed l L).put x g := by
  funext y
  unfold Fs.crashed strike Fs.put
  by_cases e : y = x
  · subst e
    simp [hL, hf, hg]
  · simp [e]

set_option maxRecDepth 100000 in
set_option maxHeartbeats 1600000 in
theorem crash_at (w : World) (d mb : Nat) (M : DM) (ao : Option Addr) (cap : Nat) (l : List Int) (h : DiskAt w d mb M) (hl : IntsIn w ao l) :
    Calls Try.prog 27 #[.pointer (some ⟨d, 0, none⟩), .slice ao l.length cap] w (CrashEnd M l w) := by
  have c0 := h.map_cell
  have c1 := h.room_cell
  have hdl := h.blk.lt
  have hml := h.files.lt
  have hmm := @run_makeMap Try.prog
  go_enter Try.func27, Try.ntmps27
  go_wp2_with (first
    | (at_range; refine wpList_range_files rfl _ _ rfl Dk.law Dk.u_map rfl (h.files.keeps (S := NoBlock) (((Only.refl NoBlock w).alloc _).alloc _) (fun h => h)) ?_; intro w0 cnt0 hg0 ho0 hs0)
    | fail)
  go_frame
  simp only [World.size_alloc] at hg0 hs0 ⊢
  go_loopw [6] (fun _ wr => ∃ (L : Int → Bool) (cnt : Nat), Going Try.prog 3 wr mb (w.heap.size + 1 + 1) M.files L cnt ∧ DiskAt wr (w.heap.size + 1) w.heap.size { files := M.files.crashed l L, room := M.room, fuel := -1, off := false } ∧ Only NoBlock w wr)
    (fun _ wr => wr.rangeLeft mb (w.heap.size + 1 + 1))
  case atStart =>
    refine ⟨_, cnt0, hg0, ?_, (((Only.refl NoBlock w).alloc _).alloc _).trans ho0⟩
    have e : M.files.crashed l (fun x => (M.files x).isSome) = fun _ => none := by
      funext x
      unfold Fs.crashed
      cases hx : M.files x <;> simp [hx]
    rw [e]
    have hd0 : DiskAt ((w.alloc (Obj.map #[] 0)).alloc (Obj.cells #[.map (some w.heap.size), .int .i64 M.room, .int .i64 (-1), .bool false] 85)) (w.heap.size + 1) w.heap.size { files := fun _ => none, room := M.room, fuel := -1, off := false } := by
      refine ⟨?_, ?_, ?_⟩
      · have := Blk.made (w.alloc (.map #[] 0)) #[.map (some w.heap.size), .int .i64 M.room, .int .i64 (-1), .bool false] 85
        simpa using this
      · exact (FilesAt.made w Try.prog 3).keeps (S := NoBlock) ((Only.refl _ _).alloc _) (fun h => h)
      · have := crashed_ok h.ok l (fun x => (M.files x).isSome)
        rw [e] at this
        exact this
    exact hd0.keeps ho0 (fun h => h) (fun h => h)
  case round =>
    obtain ⟨L, cnt, hg, hd, ho⟩ := hrel
    go_wp2_with (first
      | (at_next; refine wpList_next_files rfl _ rfl Dk.law Dk.u_int rfl hg ?_ ?_)
      | fail)
    · intro hL
      have HL := Lib.hid hL
      clear hL
      go_wp2
      go_ret
      refine ⟨rfl, ?_, ho⟩
      have e : M.files.crashed l L = (M.crash (keepOf l)).files := by
        funext x
        unfold Fs.crashed DM.crash
        rw [HL.out]
        rfl
      rw [e] at hd
      exact hd
    · intro x fa fb w1 cnt1 hF hLx hx0 hx1 hg1 hlt ho1 hs1 hen
      have hws := ho.size
      have hne := hg.lt
      have ho2 : Only NoBlock w w1 := ho.andThen ho1 (fun i hi e => by omega)
      have hd1 := hd.keeps ho1 (by omega) (by omega)
      have k0 := hd1.map_cell
      have hdl1 := hd1.blk.lt
      have HF := Lib.hid hF
      have HLx := Lib.hid hLx
      clear hF hLx
      obtain ⟨n, rfl⟩ := Int.eq_ofNat_of_zero_le hx0
      obtain ⟨j, hj⟩ : ∃ j : Nat, j = (max 0 (min (keepOf l (n : Int)) (fb.size : Int))).toNat := ⟨_, rfl⟩
      have hjle : j ≤ fb.size := by omega
      have HJ := Lib.hid hj
      clear hj hs1 hs0 hg0 ho0
      go_upto_if 31 with (fail)
      go_cut [8] (fun s8 wx => s8 = .int .i64 (j : Int) ∧ ∃ q, wx = (w1.alloc (Obj.cells #[Value.string fa, Value.string fb] 91)).drewN q)
      case first =>
        by_cases hxl : n < l.length
        · obtain ⟨b, off, rfl, hcell⟩ := hl.cell n hxl
          have hc1 := keeps_cell ho2 (fun h => h) hcell
          have hbl : b < w1.heap.size := World.block_lt_of_cell? w1 _ hc1
          have hk : keepOf l (n : Int) = l.getD n 0 := by unfold keepOf; simp
          obtain ⟨y, hy⟩ : ∃ y, y = l.getD n 0 := ⟨_, rfl⟩
          have HJ2 : j = (max 0 (min y (fb.size : Int))).toNat := by rw [HJ.out, hk, hy]
          rw [← hy] at hc1
          clear hy hcell hl HJ hk
          have HJ := Lib.hid HJ2
          clear HJ2
          go_wp2_with fail
          go_quiet (fail)
          all_goals go_wp2_with fail
          all_goals (go_meet; exact ⟨congrArg (Value.int .i64) (by have := HJ.out; omega), _, rfl⟩)
        · have hk : keepOf l (n : Int) = 0 := by unfold keepOf; simp [List.getElem?_eq_none (Nat.le_of_not_lt hxl)]
          have hj0 : j = 0 := by rw [HJ.out, hk]; omega
          clear hk
          have HJ0 := Lib.hid hj0
          clear hj0
          go_wp2_with fail
          go_meet
          exact ⟨congrArg (Value.int .i64) (by have := HJ0.out; omega), 0, rfl⟩
      case rest =>
        obtain ⟨rfl, q, rfl⟩ := hcut
        have hn := ((Only.refl NoBlock w1).alloc (Obj.cells #[Value.string fa, Value.string fb] 91)).drewN q
        have hsz : fa.size + fb.size ≤ 1048576 := by
          have h1 := fsz_le hx0 hx1 HF.out
          have h2 := h.ok.used
          have h3 := h.ok.room1
          unfold DM.used at h2
          simp only at h1
          omega
        by_cases hgone : fa.size = 0 ∧ j = 0 ∧ fb.size ≠ 0
        · obtain ⟨e1, rfl, e3⟩ := hgone
          have ha1 := empty_of_size e1
          have hb1 := full_of_size e3
          go_wp2_with fail
          go_roundw
          case rel =>
            refine ⟨strike L n, cnt1, hg1.keeps hn (fun h => h) (fun h => h), ?_, ho2.andThen hn (fun _ _ h => h)⟩
            have e := crashed_gone (l := l) HF.out HLx.out (by
              unfold leftFile
              simp only
              rw [← HJ.out, if_pos ⟨e1, rfl, e3⟩])
            rw [e]
            exact hd1.keeps hn (fun h => h) (fun h => h)
          case measure =>
            rw [(hg1.keeps hn (fun h => h) (fun h => h)).left_eq, hg.left_eq]; exact hlt
        · have e := crashed_stay (l := l) (x := (n : Int)) (f := (fa, fb)) HF.out HLx.out (g := (fa ++ fb.extract 0 j, ByteArray.empty)) (by
            unfold leftFile
            simp only
            rw [← HJ.out, if_neg hgone])
          have HE := Lib.hid e
          clear e
          obtain ⟨g, hg⟩ : ∃ g, g = fb.extract 0 j := ⟨_, rfl⟩
          have hgs : g.size ≤ fb.size := by rw [hg, ByteArray.size_extract]; omega
          have HG := Lib.hid hg
          clear hg
          have hcat : (9223372036854775807 < fa.size + g.size) = False := by simp; omega
          have hdf := hd1.files.keeps hn (fun h => h)
          have hstep : fa.size ≠ 0 ∨ (fa.size = 0 ∧ 0 < j) ∨ (fa.size = 0 ∧ j = 0 ∧ fb.size = 0) := by omega
          rcases hstep with e1 | ⟨e1, e2⟩ | ⟨e1, e2, e3⟩
          · have ha1 := full_of_size e1
            go_wp2_with fail
            refine wp_region_tail 13 (by kernel_rfl) (by kernel_rfl) ?_
            simp only [List.take_succ_cons, List.take_zero, List.drop_succ_cons, List.drop_zero]
            repeat still_step
            rw [← HG.out]
            repeat still_step
            refine wpStill_nil ?_
            go_wp2_with (first
              | (at_mapUpdate; refine wpList_store_file rfl _ _ _ _ rfl Dk.law Dk.u_int Dk.u_map hdf.drew rfl (n : Int) rfl hx0 hx1 (fa ++ g) ByteArray.empty rfl ?_; intro w3 hf3 hg3; go_frame))
            have ho3 : Only (fun k => k = w.heap.size) w1 w3 := (hn.of_no.drew).grown hg3 (fun k hk _ => by cases hk; rfl)
            have hg4 := hg1.keeps ho3 (by omega) (by omega)
            have hd4 := hd1.filed ho3 hf3 (by rw [HG.out, ← HE.out]; exact crashed_ok h.ok l _)
            rw [HG.out, ← HE.out] at hd4
            go_roundw
            case rel => exact ⟨strike L n, cnt1, hg4, hd4, ho2.andThen ho3 (fun i hi e => by omega)⟩
            case measure => rw [hg4.left_eq, hg.left_eq]; exact hlt
          · have ha1 := empty_of_size e1
            clear e1 hgone
            go_wp2_with fail
            refine wp_region_tail 13 (by kernel_rfl) (by kernel_rfl) ?_
            simp only [List.take_succ_cons, List.take_zero, List.drop_succ_cons, List.drop_zero]
            repeat still_step
            rw [← HG.out]
            repeat still_step
            refine wpStill_nil ?_
            go_wp2_with (first
              | (at_mapUpdate; refine wpList_store_file rfl _ _ _ _ rfl Dk.law Dk.u_int Dk.u_map hdf.drew rfl (n : Int) rfl hx0 hx1 (fa ++ g) ByteArray.empty rfl ?_; intro w3 hf3 hg3; go_frame))
            have ho3 : Only (fun k => k = w.heap.size) w1 w3 := (hn.of_no.drew).grown hg3 (fun k hk _ => by cases hk; rfl)
            have hg4 := hg1.keeps ho3 (by omega) (by omega)
            have hd4 := hd1.filed ho3 hf3 (by rw [HG.out, ← HE.out]; exact crashed_ok h.ok l _)
            rw [HG.out, ← HE.out] at hd4
            go_roundw
            case rel => exact ⟨strike L n, cnt1, hg4, hd4, ho2.andThen ho3 (fun i hi e => by omega)⟩
            case measure => rw [hg4.left_eq, hg.left_eq]; exact hlt
          · have ha1 := empty_of_size e1
            have hb1 := empty_of_size e3
            subst e2
            have hg0 : g = ByteArray.empty := ByteArray.size_eq_zero_iff.1 (by omega)
            have hfg : (fa ++ g, ByteArray.empty) = (fa, ByteArray.empty) := by rw [hg0]; simp
            have hcat0 : (9223372036854775807 < fa.size) = False := by simp; omega
            rw [← HG.out, hfg] at HE
            clear e1 e3 hgone hg0 hfg
            go_wp2_with fail
            refine wp_region_tail 13 (by kernel_rfl) (by kernel_rfl) ?_
            simp only [List.take_succ_cons, List.take_zero, List.drop_succ_cons, List.drop_zero]
            repeat still_step
            refine wpStill_nil ?_
            go_wp2_with (first
              | (at_mapUpdate; refine wpList_store_file rfl _ _ _ _ rfl Dk.law Dk.u_int Dk.u_map hdf.drew rfl (n : Int) rfl hx0 hx1 fa ByteArray.empty rfl ?_; intro w3 hf3 hg3; go_frame))
            have ho3 : Only (fun k => k = w.heap.size) w1 w3 := (hn.of_no.drew).grown hg3 (fun k hk _ => by cases hk; rfl)
            have hg4 := hg1.keeps ho3 (by omega) (by omega)
            have hd4 := hd1.filed ho3 hf3 (by rw [← HE.out]; exact crashed_ok h.ok l _)
            rw [← HE.out] at hd4
            go_roundw
            case rel => exact ⟨strike L n, cnt1, hg4, hd4, ho2.andThen ho3 (fun i hi e => by omega)⟩
            case measure => rw [hg4.left_eq, hg.left_eq]; exact hlt

end Go.Proofs.Ytekmjhenhgmpgaa
