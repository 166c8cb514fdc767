/- The document's disk: Crash. -/
import Derived.Test.YtdinkbmajcpnbaaRef4C
namespace Go.Proofs.Ytdinkbmajcpnbaa
open Go.RowKit Go.Maps
set_option maxRecDepth 100000

set_option maxHeartbeats 1600000 in
theorem rcrash_at (w : World) (r : Nat) (M : DM) (ao : Option Addr) (cap : Nat) (l : List Int) (h : RefAt w r M) (hl : IntsIn w ao l) :
    Calls Try.prog 35 #[.pointer (some ⟨r, 0, none⟩), .slice ao l.length cap] w fun e w' => e = .returned (.pointer (some ⟨w.heap.size, 0, none⟩)) ∧ RefAt w' w.heap.size (M.crash (keepOf l)) ∧ Only NoBlock w w' := by
  have cr := h.cRoom
  have hrl := h.lt
  go_enter Try.func35, Try.ntmps35
  go_wp2
  go_loopw [6] (fun i wr => ∃ k : Nat, k ≤ 16 ∧ i = .int .i64 k ∧ RefAt wr w.heap.size { files := M.files.crashed l (fun x => decide ((k : Int) ≤ x)), room := M.room, fuel := -1, off := false } ∧ Only NoBlock w wr) (fun i _ => 16 - (intOf i).toNat)
  case atStart =>
    refine ⟨0, by omega, rfl, ⟨crashed_ok h.ok l _, _, fun _ => ByteArray.empty, fun _ => ByteArray.empty, fun _ => false, Blk.made _ _ _, ?_, ?_⟩, (Only.refl _ _).alloc _⟩
    · refine ⟨rfl, fun i hi => ?_, fun i hi => ?_, fun i hi => ?_, rfl, rfl, rfl⟩
      · match i, hi with
        | 0, _ => rfl | 1, _ => rfl | 2, _ => rfl | 3, _ => rfl | 4, _ => rfl | 5, _ => rfl | 6, _ => rfl | 7, _ => rfl | 8, _ => rfl | 9, _ => rfl | 10, _ => rfl | 11, _ => rfl | 12, _ => rfl | 13, _ => rfl | 14, _ => rfl | 15, _ => rfl | n + 16, h => exact absurd h (by omega)
      · match i, hi with
        | 0, _ => rfl | 1, _ => rfl | 2, _ => rfl | 3, _ => rfl | 4, _ => rfl | 5, _ => rfl | 6, _ => rfl | 7, _ => rfl | 8, _ => rfl | 9, _ => rfl | 10, _ => rfl | 11, _ => rfl | 12, _ => rfl | 13, _ => rfl | 14, _ => rfl | 15, _ => rfl | n + 16, h => exact absurd h (by omega)
      · match i, hi with
        | 0, _ => rfl | 1, _ => rfl | 2, _ => rfl | 3, _ => rfl | 4, _ => rfl | 5, _ => rfl | 6, _ => rfl | 7, _ => rfl | 8, _ => rfl | 9, _ => rfl | 10, _ => rfl | 11, _ => rfl | 12, _ => rfl | 13, _ => rfl | 14, _ => rfl | 15, _ => rfl | n + 16, h => exact absurd h (by omega)
    · have e : ∀ i : Nat, M.files.crashed l (fun x => decide (((0 : Nat) : Int) ≤ x)) i = none := fun i => by unfold Fs.crashed; rw [if_pos (by simp)]
      exact ⟨fun i _ => by dsimp only; rw [e i]; rfl, fun i _ => by dsimp only; rw [e i]; rfl, fun i _ => by dsimp only; rw [e i]; rfl⟩
  case round =>
    obtain ⟨k, hk, rfl, hd, ho⟩ := hrel
    by_cases hlt : k < 16
    · have hr := h.keeps ho (fun h => h)
      obtain ⟨fa, fb, hf⟩ : ∃ fa fb, (M.files k).getD noFile = (fa, fb) := ⟨_, _, rfl⟩
      have k0 := hr.cFirm hlt
      have k1 := hr.cSoft hlt
      have k2 := hr.cThere hlt
      rw [hf] at k0 k1
      simp only at k0 k1
      have hsm := h.ok.small (n := (k : Int)) (by omega) (by omega) hf
      have hus := h.ok.used
      have hr1 := h.ok.room1
      obtain ⟨j, hj⟩ : ∃ j : Nat, j = (max 0 (min (keepOf l (k : Int)) (fb.size : Int))).toNat := ⟨_, rfl⟩
      have hjle : j ≤ fb.size := by omega
      have HJ := Lib.hid hj
      have HF := Lib.hid hf
      clear hj hf
      go_upto_if 21 with (fail)
      go_cut [7] (fun s7 wx => s7 = .int .i64 (j : Int) ∧ ∃ q, wx = wr.drewN q)
      case first =>
        by_cases hxl : k < l.length
        · obtain ⟨b, off, rfl, hcell⟩ := hl.cell k hxl
          have hc1 := keeps_cell ho (fun h => h) hcell
          have hkk : keepOf l (k : Int) = l.getD k 0 := by unfold keepOf; simp
          obtain ⟨y, hy⟩ : ∃ y, y = l.getD k 0 := ⟨_, rfl⟩
          have HJ2 : j = (max 0 (min y (fb.size : Int))).toNat := by rw [HJ.out, hkk, hy]
          rw [← hy] at hc1
          clear hy hcell hl HJ hkk
          have HJ := Lib.hid HJ2
          clear HJ2
          go_wp2_with fail
          go_quiet (fail)
          all_goals go_wp2_with fail
          all_goals (go_meet; exact ⟨congrArg (Value.int .i64) (by have := HJ.out; omega), _, rfl⟩)
        · have hkk : keepOf l (k : Int) = 0 := by unfold keepOf; simp [List.getElem?_eq_none (Nat.le_of_not_lt hxl)]
          have hj0 : j = 0 := by rw [HJ.out, hkk]; omega
          clear hkk
          have HJ0 := Lib.hid hj0
          clear hj0
          go_wp2_with fail
          go_meet
          exact ⟨congrArg (Value.int .i64) (by have := HJ0.out; omega), 0, rfl⟩
      case rest =>
        obtain ⟨rfl, q, rfl⟩ := hcut
        obtain ⟨g, hg⟩ : ∃ g, g = fb.extract 0 j := ⟨_, rfl⟩
        have hgs : g.size ≤ fb.size := by rw [hg, ByteArray.size_extract]; omega
        have HG := Lib.hid hg
        clear hg
        have hcat : (9223372036854775807 < fa.size + g.size) = False := by simp; omega
        have d0 := hd.cFirm hlt
        have f0 := hd.free k
        have hsr : w.heap.size ≠ r := by omega
        have hsr2 : r ≠ w.heap.size := by omega
        go_wp2_with fail
        refine wp_region_tail 20 (by kernel_rfl) (by kernel_rfl) ?_
        simp only [List.take_succ_cons, List.take_zero, List.drop_succ_cons, List.drop_zero]
        repeat still_step
        rw [← HG.out]
        repeat still_step
        refine wpStill_nil ?_
        clear hcat
        go_wp2_with fail
        obtain ⟨hok, cs, fi, so, th, hb, hc, hsay⟩ := hd
        have hb2 : Blk ((wr.drewN (q + 1)).setCell ⟨w.heap.size, k, none⟩ (.string (fa ++ g))) w.heap.size (cs.setIfInBounds k (.string (fa ++ g))) 47 := (hb.drewN (q + 1)).setCell k _
        have ho2 : Only (fun i => i = w.heap.size) wr ((wr.drewN (q + 1)).setCell ⟨w.heap.size, k, none⟩ (.string (fa ++ g))) := ((Only.refl (fun i => i = w.heap.size) wr).drewN (q + 1)).setCell (fun _ => rfl) _
        have hc2 := hc.setFirm hlt (fa ++ g)
        clear d0 f0 hb hc
        generalize (wr.drewN (q + 1)).setCell ⟨w.heap.size, k, none⟩ (.string (fa ++ g)) = w2 at hb2 ho2 ⊢
        have hr2 := hr.keeps ho2 hsr2
        have d0 : w2.cell? ⟨w.heap.size, k, none⟩ = some (.string (fa ++ g)) := by rw [hb2.cell, hc2.firm k hlt]; simp [upd]
        have d2 : w2.cell? ⟨w.heap.size, 32 + k, none⟩ = some (.bool (th k)) := by rw [hb2.cell, hc2.there k hlt]
        have f2 := hb2.free (32 + k)
        have k1 := hr2.cSoft hlt
        have k2 := hr2.cThere hlt
        rw [HF.out] at k1
        simp only at k1
        obtain ⟨b, hbd⟩ : ∃ b, b = ((M.files k).isSome && (!(fa ++ g).toList.isEmpty || fb.toList.isEmpty)) := ⟨_, rfl⟩
        have hsay2 : Says (M.files.crashed l (fun x => decide (((k + 1 : Nat) : Int) ≤ x))) (upd fi k (fa ++ g)) so (upd th k b) := by
          have hj := HJ.out
          have hf := HF.out
          rw [HG.out] at hbd ⊢
          exact Says.crash hsay hf hj hbd
        have hb3 := hb2.drew.setCell (32 + k) (.bool b)
        have hc3 := hc2.setThere hlt b
        have hok3 := crashed_ok h.ok l (fun x => decide (((k + 1 : Nat) : Int) ≤ x))
        have q0 := ho.andThen ho2 (fun i hi e => by omega)
        have q1 : Only NoBlock w (w2.drew.setCell ⟨w.heap.size, 32 + k, none⟩ (.bool b)) := q0.drew.setCell (fun h => absurd h (Nat.lt_irrefl _)) _
        have hfin : RefAt (w2.drew.setCell ⟨w.heap.size, 32 + k, none⟩ (.bool b)) w.heap.size { files := M.files.crashed l (fun x => decide (((k + 1 : Nat) : Int) ≤ x)), room := M.room, fuel := -1, off := false } ∧ Only NoBlock w (w2.drew.setCell ⟨w.heap.size, 32 + k, none⟩ (.bool b)) :=
          ⟨⟨hok3, _, _, _, _, hb3, hc3, hsay2⟩, q1⟩
        have HFIN := Lib.hid hfin
        have HB := Lib.hid hbd
        clear hfin hbd hb2 hc2 hsay hr2 hsay2 hb3 hc3 hok3 q0 q1
        obtain ⟨e, he⟩ : ∃ e, fa ++ g = e := ⟨_, rfl⟩
        rw [he] at d0 HB
        clear he hok hr k0 HG HJ hl cr
        cases hth : (M.files k).isSome with
        | false =>
          rw [hth] at k2 HB
          have hb0 : b = false := by rw [HB.out]; rfl
          subst hb0
          have HB2 := HB
          clear HB hth
          · go_region
            go_wp2_with fail
            go_roundw
            case rel =>
              obtain ⟨q1, q2⟩ := HFIN.out
              exact ⟨k + 1, by omega, by go_num, q1, q2⟩
            case measure => simp [intOf]; omega
        | true =>
          rw [hth] at k2 HB
          clear hth
          cases h1 : e.toList.isEmpty with
          | false =>
            have hb0 : b = true := by rw [HB.out, h1]; rfl
            subst hb0
            go_region
            go_wp2_with fail
            go_roundw
            case rel =>
              obtain ⟨q1, q2⟩ := HFIN.out
              exact ⟨k + 1, by omega, by go_num, q1, q2⟩
            case measure => simp [intOf]; omega
          | true =>
            cases h2 : fb.toList.isEmpty with
            | false =>
              have hb0 : b = false := by rw [HB.out, h1, h2]; rfl
              subst hb0
              · go_region
                go_wp2_with fail
                go_roundw
                case rel =>
                  obtain ⟨q1, q2⟩ := HFIN.out
                  exact ⟨k + 1, by omega, by go_num, q1, q2⟩
                case measure => simp [intOf]; omega
            | true =>
              have hb0 : b = true := by rw [HB.out, h1, h2]; rfl
              subst hb0
              · go_region
                go_wp2_with fail
                go_roundw
                case rel =>
                  obtain ⟨q1, q2⟩ := HFIN.out
                  exact ⟨k + 1, by omega, by go_num, q1, q2⟩
                case measure => simp [intOf]; omega
    · have hk16 : k = 16 := by omega
      subst hk16
      go_wp2
      go_ret
      refine ⟨rfl, ?_, ho⟩
      have e : M.files.crashed l (fun x => decide (((16 : Nat) : Int) ≤ x)) = (M.crash (keepOf l)).files := by
        funext x
        unfold Fs.crashed DM.crash
        by_cases hx : ((16 : Nat) : Int) ≤ x
        · rw [if_pos (by simpa using hx)]
          cases hF : M.files x with
          | none => simp [hF]
          | some f => have := h.ok.keys x f hF; omega
        · rw [if_neg (by simpa using hx)]
          rfl
      rw [e] at hd
      exact hd

end Go.Proofs.Ytdinkbmajcpnbaa
