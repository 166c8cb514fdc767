/- Behind a crash each file is the beginning of what it was, with all that was synced: the walk of the law. -/
import Derived.Test.YtdinkbmajcpnbaaLawDiskFirm
import Derived.Lib.Strings
import Derived.Lib.Slices
import Derived.Lib.Walk
namespace Go.Proofs.Ytdinkbmajcpnbaa
open Go.RowKit Go.Maps

def DM.Idle (M : DM) : Prop := M.fuel = -1 ∧ M.off = false
theorem DM.Idle.stepped {M : DM} (h : M.Idle) : M.stepped = M := by
  unfold DM.stepped
  rw [if_neg (by rw [h.2]; decide), if_neg (by rw [h.1]; decide), if_neg (by rw [h.1]; decide)]
theorem DM.Idle.call {M : DM} (h : M.Idle) (c : CallD) (hk : c.kind ≤ 3) : (M.call c).Idle := by
  unfold DM.call
  split
  · unfold DM.append; simp only [h.stepped]; repeat' split
    all_goals exact h
  split
  · unfold DM.sync; simp only [h.stepped]; repeat' split
    all_goals exact h
  split
  · unfold DM.replace; simp only [h.stepped]; repeat' split
    all_goals exact h
  split
  · unfold DM.remove; simp only [h.stepped]; repeat' split
    all_goals exact h
  rw [if_neg (by omega), if_neg (by omega)]
  exact h

theorem hprefix_at (w : World) (s p : ByteArray) (h : p.data.toList <+: s.data.toList) :
    Calls Try.prog 19 #[.string s, .string p] w fun e w' => e = .returned (.bool true) ∧ w = w' := by
  have h' : Lib.hasPrefix s.data.toList p.data.toList = true := by unfold Lib.hasPrefix; exact List.isPrefixOf_iff_prefix.2 h
  rw [← Lib.hasPrefix_of_take, ← Lib.size_eq, ← Lib.size_eq] at h'
  have H := Lib.hid h'
  clear h' h
  go_enter Try.func19, Try.ntmps19
  go_wp2
  · rename_i hh
    go_ret
    refine ⟨?_, rfl⟩
    show Ending.returned (Value.bool ((s.extract 0 p.size).toList == p.toList)) = _
    have := H.out
    rw [Lib.extract_toList, Lib.toList_data]
    simp [hh] at this ⊢
    exact this
  · rename_i hh
    have := H.out
    simp [hh] at this
theorem prefix_left (a b : ByteArray) (j : Nat) : (a ++ b.extract 0 j).data.toList <+: (a ++ b).data.toList := by
  have e1 : (a ++ b.extract 0 j).data.toList = a.data.toList ++ (b.data.toList.take j) := by simp
  have e2 : (a ++ b).data.toList = a.data.toList ++ b.data.toList := by simp
  rw [e1, e2]
  exact List.prefix_append_right_inj _ |>.2 (List.take_prefix _ _)
theorem prefix_firm (a b : ByteArray) : a.data.toList <+: (a ++ b).data.toList := by simp

set_option maxRecDepth 100000 in
set_option maxHeartbeats 4000000 in
theorem walk_DiskKeeps {w : World} (a0 : List CallD × Option Addr × Nat) (hin : CallsIn w a0.2.1 a0.1) (a1 : List Int × Option Addr × Nat) (hk1 : IntsIn w a1.2.1 a1.1) :
    Calls Try.prog 4 #[.slice a0.2.1 a0.1.length a0.2.2, .slice a1.2.1 a1.1.length a1.2.2] w fun e w' => e = .returned (.bool true) ∧ Below w.heap.size w w' := by
  obtain ⟨cs, ao, cap⟩ := a0
  obtain ⟨l1, ao1, cap1⟩ := a1
  simp only at hin hk1 ⊢
  have hlm := hin.len
  unfold maxLen at hlm
  go_enter Try.func4, Try.ntmps4
  go_upto_block 0 with (first
    | (go_at_call 9; refine (begun_ok _).mono ?_; rintro e w1 ⟨rfl, ho1⟩)
    | (go_at_call 10; refine (new_ok _ _ (by decide) (by decide)).mono ?_; rintro e w2 ⟨rfl, hd2, ho2, hs2⟩; clear hs2)
    | (go_at_call 15; refine (rnew_ok _ _ (by decide) (by decide)).mono ?_; rintro e w3 ⟨rfl, hr3, ho3⟩))
  have hp3 : Pair w3 (w1.heap.size + 1) w1.heap.size w2.heap.size (DM.new 1048576) := ⟨hd2.keeps ho3 (fun h => h) (fun h => h), hr3⟩
  have ho4 : Only NoBlock w w3 := (ho1.trans ho2).trans ho3
  have z1 := ho1.size
  have z2 : w.heap.size ≤ w1.heap.size + 1 := by omega
  have z3 : w.heap.size ≤ w2.heap.size := by have := ho2.size; omega
  clear hd2 hr3
  generalize w1.heap.size + 1 = d0 at hp3 z2 ⊢
  generalize w1.heap.size = mb0 at hp3 z1 ⊢
  generalize w2.heap.size = r0 at hp3 z3 ⊢
  have HI0 : RowKit.Hid (DM.new 1048576).Idle := Lib.hid ⟨rfl, rfl⟩
  generalize DM.new 1048576 = M0 at hp3 HI0
  go_cut [5, 7] (fun v7 v9 wx => ∃ (M : DM) (d mb r : Nat), v7 = .pointer (some ⟨d, 0, none⟩) ∧ v9 = .pointer (some ⟨r, 0, none⟩) ∧ Pair wx d mb r M ∧ Only NoBlock w wx ∧ RowKit.Hid M.Idle)
  case first =>
    go_wp2_with fail
    go_loopw [5, 7, 30] (fun v7 v9 i wr => ∃ (k : Nat) (M : DM) (d mb r : Nat), k ≤ cs.length ∧ i = .int .i64 k ∧ v7 = .pointer (some ⟨d, 0, none⟩) ∧ v9 = .pointer (some ⟨r, 0, none⟩) ∧ Pair wr d mb r M ∧ RowKit.Hid M.Idle ∧ Only NoBlock w wr ∧ w.heap.size ≤ d ∧ w.heap.size ≤ mb ∧ w.heap.size ≤ r) (fun _ _ i _ => cs.length - (intOf i).toNat)
    case atStart => exact ⟨0, M0, d0, mb0, r0, by omega, rfl, rfl, rfl, hp3, HI0, ho4, z2, z1, z3⟩
    case round =>
      obtain ⟨k, M, d, mb, r, hk, rfl, rfl, rfl, hp, HI, ho, y1, y2, y3⟩ := hrel
      by_cases hlt : k < cs.length
      · obtain ⟨b, off, rfl, hcall⟩ := hin.call k hlt
        have hc := hcall.keeps ho
        generalize cs[k] = c at hcall hc
        have q0 := hc.c0
        have q1 := hc.c1
        have q2 := hc.c2
        have q3 := hc.c3
        have q4 := hc.c4
        have hcs := hc.s
        unfold maxLen at hcs
        have hbl : b < wr.heap.size := World.block_lt_of_cell? wr _ q0
        by_cases h200 : k = 200
        · subst h200
          go_wp2_with fail
          go_meet
          exact ⟨M, d, mb, r, rfl, rfl, hp.keeps ((Only.refl NoBlock wr).alloc _) (fun h => h) (fun h => h) (fun h => h), ho.alloc _, HI⟩
        · have hk2 : ((k : Int) == 200) = false := by simp; omega
          by_cases hbig : 1000 < c.s.size
          · go_wp2_with fail
            go_meet
            exact ⟨M, d, mb, r, rfl, rfl, hp.keeps ((Only.refl NoBlock wr).alloc _) (fun h => h) (fun h => h) (fun h => h), ho.alloc _, HI⟩
          · by_cases hkind : 3 < c.kind
            · go_wp2_with fail
              go_meet
              exact ⟨M, d, mb, r, rfl, rfl, hp.keeps ((Only.refl NoBlock wr).alloc _) (fun h => h) (fun h => h) (fun h => h), ho.alloc _, HI⟩
            · have HI4 := Lib.hid (HI.out.call c (by omega))
              go_wp2_with fail
              have hn := (Only.refl NoBlock wr).alloc (Obj.cells #[.int .i64 c.kind, .int .i64 c.n, .string c.s, .int .i64 c.fuel, .slice c.ao c.keep.length c.cap] 37)
              have hok : c.Ok (wr.alloc (Obj.cells #[.int .i64 c.kind, .int .i64 c.n, .string c.s, .int .i64 c.fuel, .slice c.ao c.keep.length c.cap] 37)) := ⟨hc.n, by omega, hc.fuel, hc.keep.keeps hn (fun _ _ h => h)⟩
              have hd0 := hp.disk.blk.lt
              have hm0 := hp.disk.files.lt
              have hr0 := hp.ref.lt
              refine (both_at _ d mb r M c (hp.keeps hn (fun h => h) (fun h => h) (fun h => h)) hok).mono ?_
              rintro e w4 ⟨d', mb', r', rfl, hp4, ho4', hor⟩
              have hz := ho.size
              have ho5 : Only NoBlock w w4 := (ho.trans hn).andThen ho4' (by rintro i hi (e | e | e) <;> omega)
              have z4 : w.heap.size ≤ d' ∧ w.heap.size ≤ mb' ∧ w.heap.size ≤ r' := by
                rcases hor with ⟨rfl, rfl, rfl⟩ | ⟨u1, u2, u3⟩
                · exact ⟨y1, y2, y3⟩
                · have := hn.size; omega
              generalize M.call c = M4 at hp4 HI4
              clear hor ho4' hok hp q0 q1 q2 q3 q4 hc hcall hd0 hm0 hr0 hn
              go_wp2_with fail
              go_roundw
              case rel => exact ⟨k + 1, M4, d', mb', r', by omega, by go_num, rfl, rfl, hp4, HI4, ho5, z4.1, z4.2.1, z4.2.2⟩
              case measure => simp [intOf]; omega
      · go_wp2
        go_meet
        exact ⟨M, d, mb, r, rfl, rfl, hp, ho, HI⟩
  case rest =>
    obtain ⟨M, d, mb, r, rfl, rfl, hp, ho, HI⟩ := hcut
    have hk1' := hk1.keeps ho (fun _ _ h => h)
    have hd := hp.disk
    go_wp2_with fail
    refine (crash_at _ d mb M ao1 cap1 l1 hd hk1').mono ?_
    rintro e w4 ⟨rfl, hx4, hof4⟩
    have hp4 := hp.keeps hof4 (fun h => h) (fun h => h) (fun h => h)
    have ho4 := ho.trans hof4
    clear hd hp hk1' ho hof4
    generalize wc.heap.size + 1 = x at hx4 ⊢
    generalize wc.heap.size = mx at hx4 ⊢
    go_wp2_with fail
    go_loopw [62] (fun i wr => ∃ k : Nat, k ≤ 16 ∧ i = .int .i64 k ∧ Pair wr d mb r M ∧ DiskAt wr x mx (M.crash (keepOf l1)) ∧ Only NoBlock w wr) (fun i _ => 16 - (intOf i).toNat)
    case atStart => exact ⟨0, by omega, rfl, hp4, hx4, ho4⟩
    case round =>
      obtain ⟨k, hk, rfl, hp, hx, ho⟩ := hrel
      by_cases hlt : k < 16
      · have hw : (Lit.int .i64 (k : Int)).wf = true := wf_small (by omega) (by omega)
        have hf := hp.ref.cFirm hlt
        have hoff := HI.out.2
        rcases hM : M.files k with _ | ⟨fa, fb⟩
        · have HE1 : RowKit.Hid (M.readE k = 12) := Lib.hid (by simp [DM.readE, hoff, hM])
          have HS1 : RowKit.Hid (M.read k = ByteArray.empty) := Lib.hid (by simp [DM.read, hoff, hM])
          have HE2 : RowKit.Hid ((M.crash (keepOf l1)).readE k = 12) := Lib.hid (by simp [DM.readE, DM.crash, hM])
          have HS2 : RowKit.Hid ((M.crash (keepOf l1)).read k = ByteArray.empty) := Lib.hid (by simp [DM.read, DM.crash, hM])
          rw [hM] at hf
          have hf' : wr.cell? ⟨r, k, none⟩ = some (.string ByteArray.empty) := hf
          clear hf hoff hM
          go_wp2_with fail
          refine (read_as (k := 12) (s := ByteArray.empty) hp.disk hw HE1.out HS1.out).mono ?_
          rintro e w5 ⟨rfl, ho5⟩
          go_wp2_with fail
          refine (read_as (k := 12) (s := ByteArray.empty) (hx.keeps ho5 (fun h => h) (fun h => h)) hw HE2.out HS2.out).mono ?_
          rintro e w6 ⟨rfl, ho6⟩
          have hf6 := keeps_cell (a := ⟨r, k, none⟩) ho6 (fun h => h) (keeps_cell (a := ⟨r, k, none⟩) ho5 (fun h => h) hf')
          clear hf'
          go_wp2_with fail
          go_roundw
          case rel => exact ⟨k + 1, by omega, by go_num, (hp.keeps ho5 (fun h => h) (fun h => h) (fun h => h)).keeps ho6 (fun h => h) (fun h => h) (fun h => h), (hx.keeps ho5 (fun h => h) (fun h => h)).keeps ho6 (fun h => h) (fun h => h), (ho.trans ho5).trans ho6⟩
          case measure => simp [intOf]; omega
        · rw [hM] at hf
          have hf' : wr.cell? ⟨r, k, none⟩ = some (.string fa) := hf
          have HE1 : RowKit.Hid (M.readE k = 0) := Lib.hid (by simp [DM.readE, hoff, hM])
          have HS1 : RowKit.Hid (M.read k = fa ++ fb) := Lib.hid (by simp [DM.read, hoff, hM])
          by_cases hleft : fa.size = 0 ∧ (max 0 (min (keepOf l1 k) fb.size)).toNat = 0 ∧ fb.size ≠ 0
          · have hnone : (M.crash (keepOf l1)).files k = none := by simp only [DM.crash, hM, leftFile]; rw [if_pos hleft]
            have HE2 : RowKit.Hid ((M.crash (keepOf l1)).readE k = 12) := Lib.hid (by unfold DM.readE; rw [hnone]; simp [DM.crash])
            have HS2 : RowKit.Hid ((M.crash (keepOf l1)).read k = ByteArray.empty) := Lib.hid (by unfold DM.read; rw [hnone]; simp [DM.crash])
            obtain rfl : fa = ByteArray.empty := by
              have := hleft.1
              rcases fa with ⟨⟨l⟩⟩
              cases l with
              | nil => rfl
              | cons a b => simp [ByteArray.size] at this
            clear hf hoff hM hleft hnone
            go_wp2_with fail
            refine (read_as (k := 0) (s := _) hp.disk hw HE1.out HS1.out).mono ?_
            rintro e w5 ⟨rfl, ho5⟩
            go_wp2_with fail
            refine (read_as (k := 12) (s := ByteArray.empty) (hx.keeps ho5 (fun h => h) (fun h => h)) hw HE2.out HS2.out).mono ?_
            rintro e w6 ⟨rfl, ho6⟩
            have hf6 := keeps_cell (a := ⟨r, k, none⟩) ho6 (fun h => h) (keeps_cell (a := ⟨r, k, none⟩) ho5 (fun h => h) hf')
            clear hf'
            go_wp2_with fail
            go_roundw
            case rel => exact ⟨k + 1, by omega, by go_num, (hp.keeps ho5 (fun h => h) (fun h => h) (fun h => h)).keeps ho6 (fun h => h) (fun h => h) (fun h => h), (hx.keeps ho5 (fun h => h) (fun h => h)).keeps ho6 (fun h => h) (fun h => h), (ho.trans ho5).trans ho6⟩
            case measure => simp [intOf]; omega
          · have hsome : (M.crash (keepOf l1)).files k = some (fa ++ fb.extract 0 (max 0 (min (keepOf l1 k) fb.size)).toNat, ByteArray.empty) := by simp only [DM.crash, hM, leftFile]; rw [if_neg hleft]
            have HE2 : RowKit.Hid ((M.crash (keepOf l1)).readE k = 0) := Lib.hid (by unfold DM.readE; rw [hsome]; simp [DM.crash])
            have HS2 : RowKit.Hid ((M.crash (keepOf l1)).read k = fa ++ fb.extract 0 (max 0 (min (keepOf l1 k) fb.size)).toNat) := Lib.hid (by unfold DM.read; rw [hsome]; simp [DM.crash])
            have hp1 := prefix_left fa fb (max 0 (min (keepOf l1 k) fb.size)).toNat
            have hp2 := prefix_firm fa (fb.extract 0 (max 0 (min (keepOf l1 k) fb.size)).toNat)
            clear hf hoff hM hleft hsome
            generalize (max 0 (min (keepOf l1 k) (fb.size : Int))).toNat = j at HS2 hp1 hp2
            generalize fa ++ fb.extract 0 j = t at HS2 hp1 hp2
            generalize fa ++ fb = sv at HS1 hp1
            go_wp2_with fail
            refine (read_as (k := 0) (s := _) hp.disk hw HE1.out HS1.out).mono ?_
            rintro e w5 ⟨rfl, ho5⟩
            go_wp2_with fail
            refine (read_as (k := 0) (s := _) (hx.keeps ho5 (fun h => h) (fun h => h)) hw HE2.out HS2.out).mono ?_
            rintro e w6 ⟨rfl, ho6⟩
            have hf6 := keeps_cell (a := ⟨r, k, none⟩) ho6 (fun h => h) (keeps_cell (a := ⟨r, k, none⟩) ho5 (fun h => h) hf')
            clear hf'
            go_wp2_with (first
              | (go_at_call 19; refine (hprefix_at _ _ _ hp1).mono ?_; rintro e w7 ⟨rfl, rfl⟩)
              | (go_at_call 19; refine (hprefix_at _ _ _ hp2).mono ?_; rintro e w7 ⟨rfl, rfl⟩))
            go_roundw
            case rel => exact ⟨k + 1, by omega, by go_num, (hp.keeps ho5 (fun h => h) (fun h => h) (fun h => h)).keeps ho6 (fun h => h) (fun h => h) (fun h => h), (hx.keeps ho5 (fun h => h) (fun h => h)).keeps ho6 (fun h => h) (fun h => h), (ho.trans ho5).trans ho6⟩
            case measure => simp [intOf]; omega
      · go_wp2_with fail
        refine (off_as hx (b := false) rfl).mono ?_
        rintro e w9 ⟨rfl, rfl⟩
        go_wp2_with fail
        go_ret
        exact ⟨rfl, ho.below (Nat.le_refl _) (fun _ h => h.elim)⟩

end Go.Proofs.Ytdinkbmajcpnbaa
