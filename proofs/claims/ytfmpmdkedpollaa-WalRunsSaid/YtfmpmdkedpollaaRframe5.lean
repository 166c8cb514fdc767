/- The document's frames and scanning: what they answer is what the plain lists say. -/
import Derived.Test.YtfmpmdkedpollaaRdecode5
namespace Go.Proofs.Ytfmpmdkedpollaa
open Go.RowKit

theorem textOf_zero (l : List Int) : textOf l ++ ⟨#[0]⟩ = textOf (l ++ [0]) := by
  rw [textOf_append]; rfl

set_option maxHeartbeats 1000000 in
theorem rframe_at (w : World) (s : ByteArray) (hs : s.size ≤ 1000000000) :
    Calls Try.prog 15 #[.string s] w fun e w' => e = .returned (.string (textOf (Wal.frame (nums s)))) ∧ Only NoBlock w w' := by
  have hl : (nums s).length ≤ 1000000000 := by rw [nums_length]; exact hs
  have hr := Wal.raw_length (nums s)
  have HR := Lib.hid hr
  have hr' : (Wal.raw (nums s)).length ≤ 1000000004 := by omega
  have hel := Stuff.enc_long (Wal.raw (nums s))
  clear hr
  have hx := Wal.crc_U (nums s)
  have hbe := Wal.be4_byte hx
  obtain ⟨hx0, hx1⟩ := hx
  go_enter Try.func15, Try.ntmps15
  go_wp2_with (first
    | (refine wpList_conv_bytes _ rfl _ _ rfl Cv.u_string Cv.u_byte s rfl (by unfold maxLen; omega) ?_; intro g1 cap1 w1 hc1 hg1 ho1))
  refine (radd_at w1 _ _ (nums s) hc1.read).mono ?_
  rintro e w2 ⟨rfl, rfl⟩
  go_wp2_with (first
    | (refine wpList_conv_bytes _ rfl _ _ rfl Cv.u_string Cv.u_byte s rfl (by unfold maxLen; omega) ?_; intro g2 cap2 w2 hc2 hg2 ho2)
    | (at_builtin; refine wpList_append_conv _ rfl _ _ rfl g2 cap2 _ (nums s) rfl rfl (hc2.keeps ((Only.refl NoBlock _).alloc _) (fun h => h)) ⟨w2.heap.size, 0, none⟩ 4 4 (Wal.be4 (Crc.add 0 (nums s))) rfl rfl (four_cells _ _ _ _ rfl) hbe (by omega) (Wal.raw (nums s)) rfl ?_; intro ao cap3 w3 hb3 ho3 hc3 hcm3))
  refine (rencode_at w3 _ _ (Wal.raw (nums s)) hb3 hc3 hcm3 (by omega)).mono ?_
  rintro e w4 ⟨v, rfl, hb4, ho4⟩
  obtain ⟨ao4, cap4, rfl⟩ := Bts.shape' hb4
  have hsz : (textOf (Stuff.enc (Wal.raw (nums s)))).size ≤ 2000000009 := by rw [textOf_size]; omega
  have HZ := Lib.hid (textOf_zero (Stuff.enc (Wal.raw (nums s))))
  go_wp2_with (first
    | (refine wpList_conv_text _ rfl _ _ rfl Cv.u_string Cv.u_byte ao4 _ cap4 (Stuff.enc (Wal.raw (nums s))) ?_ rfl (Bts.read hb4 (Stuff.enc_byte (Wal.raw_byte (nums_byte s)))) ?_; (rfl)))
  go_ret
  have h3 : Only NoBlock w w3 := ((ho1.trans ho2).alloc _).andThen ho3 (fun i hi e => by have := ho1.size; omega)
  exact ⟨by rw [Wal.frame, ← HZ.out]; rfl, h3.trans ho4⟩

namespace Wal
def firstT (r : List Int) : ByteArray := match first r with | none => ⟨#[]⟩ | some (x, _) => textOf x
def firstN (r : List Int) : Nat := match first r with | none => 0 | some (_, n) => n
theorem first_none {r : List Int} (h : first r = none) : firstT r = ⟨#[]⟩ ∧ firstN r = 0 := by unfold firstT firstN; rw [h]; exact ⟨rfl, rfl⟩
theorem first_some {r x : List Int} {n : Nat} (h : first r = some (x, n)) : firstT r = textOf x ∧ firstN r = n := by unfold firstT firstN; rw [h]; exact ⟨rfl, rfl⟩
end Wal

set_option maxRecDepth 100000 in
set_option maxHeartbeats 2000000 in
theorem rfirst_at (w : World) (s : ByteArray) (hs : s.size ≤ 1000000000) :
    Calls Try.prog 36 #[.string s] w fun e w' => e = .returned (.tuple #[.string (Wal.firstT (nums s)), .int .i64 (Wal.firstN (nums s) : Nat)]) ∧ Only NoBlock w w' := by
  have hl : (nums s).length = s.size := nums_length s
  have HL := Lib.hid hl
  clear hl
  have HW : RowKit.Hid (Wal.Byte (nums s)) := Lib.hid (nums_byte s)
  go_enter Try.func36, Try.ntmps36
  go_wp2_with fail
  go_loop [4] (fun i => ∃ k : Nat, k ≤ s.size ∧ i = .int .i64 k ∧ RowKit.Hid (Sc.Clear (nums s) k)) (fun i => s.size - (intOf i).toNat)
  case atStart => exact ⟨0, by omega, rfl, Lib.hid (Sc.Clear.start _)⟩
  case round =>
    obtain ⟨k, hk, rfl, HC⟩ := hrel
    by_cases hlt : k < s.size
    · have hg := nums_get s k hlt
      by_cases hc : (nums s).getD k 0 = 0
      · have hz0 : Stuff.zero (nums s) = k := HC.out.zero (by rw [HL.out]; exact hlt) hc
        have htry := Wal.first_try HW.out
        rw [hz0, if_neg (by rw [HL.out]; omega)] at htry
        have HT := Lib.hid htry
        clear htry hz0
        have hb0 : (((s[k]'hlt).toNat : Int) != 0) = false := by rw [← hg, hc]; rfl
        clear hc hg
        go_wp2_with (first
          | (refine wpList_conv_bytes _ rfl _ _ rfl Cv.u_string Cv.u_byte (s.extract 0 k) rfl ?_ ?_; (simp; unfold maxLen; omega); intro g2 cap2 w2 hc2 hg2 ho2))
        have hne : nums (s.extract 0 k) = (nums s).take k := by rw [nums_extract]; rfl
        have hnl : (nums (s.extract 0 k)).length = k := by rw [nums_length]; simp; omega
        have HN := Lib.hid hne
        have HM := Lib.hid hnl
        have hnl1 : (nums (s.extract 0 k)).length ≤ k := by omega
        clear hne hnl
        generalize nums (s.extract 0 k) = q at hc2 HN HM hnl1 ⊢
        refine (rdecode_at w2 _ _ q hc2.read hc2.1 hc2.2.1 (by omega)).mono ?_
        rintro e w3 ⟨v, rfl, hb3, ho3⟩
        cases hdec : Stuff.dec q with
        | none =>
          rw [show decE none = 2 from rfl]
          have hst : Wal.first (nums s) = none := by rw [HT.out, ← HN.out, hdec]
          have HS := Lib.hid (Wal.first_none hst)
          clear hst hdec
          go_wp2_with fail
          go_ret2
          exact ⟨by rw [HS.out.1, HS.out.2]; rfl, ho2.trans ho3⟩
        | some b =>
          rw [show decE (some b) = 0 from rfl]
          rw [hdec] at hb3
          replace hb3 : Bts w3 w2.heap.size v b := hb3
          have HD := Lib.hid hdec
          clear hdec
          have hst2 : Wal.first (nums s) = if b.length < 4 ∨ 65540 < b.length then none else if Wal.frame (Wal.body b) = (nums s).take (k + 1) then some (Wal.body b, k + 1) else none := by rw [HT.out, ← HN.out, HD.out]
          have HS2 := Lib.hid hst2
          clear hst2
          have hbw : Wal.Byte b := Wal.dec_byte hc2.2.2.1 HD.out
          have hO : Only NoBlock w w3 := ho2.trans ho3
          obtain ⟨ao, cap, rfl⟩ := Bts.shape' hb3
          have hcaps := Bts.caps hb3
          have hbi := hb3.read hbw
          by_cases hb4 : b.length < 4
          · have HS := Lib.hid (Wal.first_none (HS2.out.trans (if_pos (.inl hb4))))
            go_wp2_with fail
            go_ret2
            exact ⟨by rw [HS.out.1, HS.out.2]; rfl, hO⟩
          · by_cases hb5 : 65540 < b.length
            · have HS := Lib.hid (Wal.first_none (HS2.out.trans (if_pos (.inr hb5))))
              have hd4 : decide ((b.length : Int) < 4) = false := by simp; omega
              have hd5 : decide ((65540 : Int) < (b.length : Int)) = true := by simp; omega
              clear hb4 hb5
              go_wp2_with fail
              go_ret2
              exact ⟨by rw [HS.out.1, HS.out.2]; rfl, hO⟩
            · have hst3 := HS2.out
              rw [if_neg (by omega)] at hst3
              have HS3 := Lib.hid hst3
              clear hst3 HS2
              obtain ⟨m, hm⟩ : ∃ m, b.length = m + 4 := ⟨b.length - 4, by omega⟩
              have hbl : (Wal.body b).length = m := by unfold Wal.body; rw [List.length_take]; omega
              have hbk : Wal.body b = b.take m := by unfold Wal.body; rw [hm]; rfl
              have hbt : nums (textOf (Wal.body b)) = Wal.body b := nums_textOf (hbw.take _)
              have hts : (textOf (Wal.body b)).size ≤ 1000000000 := by rw [textOf_size, hbl]; omega
              have HBT := Lib.hid hbt
              have hbi2 : BytesIn w3 ao (Wal.body b) := by rw [hbk]; exact hbi.take m
              have hm5 : m + 4 ≤ cap := by omega
              have hm6 : m ≤ 65536 := by omega
              have hd4 : decide ((m : Int) + 4 < 4) = false := by simp; omega
              have hd5 : decide ((65540 : Int) < (m : Int) + 4) = false := by simp; omega
              have HB := Lib.hid hbl
              rw [hm]
              clear hb4 hb5 hbt hbk hm hbl hcaps
              generalize Wal.body b = x at *
              go_upto_region 10 with (first
                | (refine wpList_conv_text _ rfl _ _ rfl Cv.u_string Cv.u_byte ao m cap x ?_ HB.out.symm hbi2 ?_; (rfl)))
              have hk1 : (0 : Int) ≤ (k : Int) + 1 := by omega
              have hk2 : (k : Int) + 1 ≤ (s.size : Int) := by omega
              have hwr : IntKind.i64.wrap ((k : Int) + 1) = (k : Int) + 1 := IntWalk.i64_in _ (by omega)
              go_region_with (first
                | (go_at_call 15; refine (rframe_at _ _ hts).mono ?_; rw [HBT.out]; rintro e w4 ⟨rfl, ho4⟩))
              all_goals
                have hO4 : Only NoBlock w w4 := hO.drew.trans ho4
                have hex : nums (s.extract 0 (k + 1)) = (nums s).take (k + 1) := by rw [nums_extract]; rfl
                by_cases he : Wal.frame x = (nums s).take (k + 1)
                · have HS := Lib.hid (Wal.first_some (HS3.out.trans (if_pos he)))
                  have hnb : (!(textOf (Wal.frame x)).toList == (s.extract 0 (k + 1)).toList) = false := by rw [he, ← hex, textOf_nums]; simp
                  rw [hnb]
                  clear hex he
                  go_wp2_with fail
                  go_ret2
                  exact ⟨by rw [HS.out.1, HS.out.2]; rfl, hO4⟩
                · have HS := Lib.hid (Wal.first_none (HS3.out.trans (if_neg he)))
                  have hne : textOf (Wal.frame x) ≠ s.extract 0 (k + 1) := by
                    intro e
                    apply he
                    rw [← hex, ← e, nums_textOf]
                    exact Wal.frame_byte (HBT.out ▸ nums_byte _)
                  have hnb := ba_ne hne
                  rw [hnb]
                  clear hex he hne
                  go_wp2_with fail
                  go_ret2
                  exact ⟨by rw [HS.out.1, HS.out.2]; rfl, hO4⟩
      · have HC' := Lib.hid (HC.out.step (by rw [HL.out]; exact hlt) hc)
        have hb0 : (((s[k]'hlt).toNat : Int) != 0) = true := by rw [← hg]; simpa using hc
        clear hc hg
        go_wp2_with fail
        go_round
        case rel => exact ⟨k + 1, by omega, by go_num, HC'⟩
        case measure => simp [intOf]; omega
    · have e : k = s.size := by omega
      subst e
      have HS := Lib.hid (Wal.first_none (HC.out.full (by rw [HL.out])))
      go_wp2_with fail
      go_ret2
      exact ⟨by rw [HS.out.1, HS.out.2]; rfl, Only.refl _ _⟩

set_option maxRecDepth 100000 in
set_option maxHeartbeats 2000000 in
theorem rscan_at (w : World) (s : ByteArray) (hs : s.size ≤ 1000000000) :
    Calls Try.prog 12 #[.string s] w fun e w' => ∃ v, e = .returned (.tuple #[v, .int .i64 (Wal.scan (nums s)).2]) ∧ Strs w' w.heap.size v ((Wal.scan (nums s)).1.map textOf) ∧ Only NoBlock w w' := by
  have hl : (nums s).length = s.size := nums_length s
  have HL := Lib.hid hl
  clear hl
  go_enter Try.func12, Try.ntmps12
  go_wp2_with fail
  go_loopw [4, 5] (fun v4 v5 wr => ∃ (at' : Nat) (done : List (List Int)), at' ≤ s.size ∧ done.length ≤ at' ∧ v5 = .int .i64 at' ∧ Strs wr w.heap.size v4 (done.map textOf) ∧ Only NoBlock w wr ∧ RowKit.Hid (Sc.At (nums s) at' done)) (fun _ v5 _ => s.size - (intOf v5).toNat)
  case atStart => exact ⟨0, [], by omega, by simp, rfl, Strs.nil _ _, Only.refl _ _, Lib.hid (Sc.At.start _)⟩
  case round =>
    obtain ⟨at', done, ha, hdl, rfl, hrow, ho, HA⟩ := hrel
    have hz := ho.size
    have hex : nums (s.extract at' s.size) = (nums s).drop at' := by
      rw [nums_extract, List.take_of_length_le]
      rw [List.length_drop, HL.out]
      omega
    have HEX := Lib.hid hex
    clear hex
    have hss : (s.extract at' s.size).size ≤ 1000000000 := by simp; omega
    go_wp2_with fail
    refine (rfirst_at wr _ hss).mono ?_
    rw [HEX.out]
    rintro e w2 ⟨rfl, ho2⟩
    have hO := ho.trans ho2
    have hrow2 := hrow.keeps ho2 (fun _ _ h => h)
    have hz2 := hO.size
    cases hf : Wal.first ((nums s).drop at') with
    | none =>
      have h1 := Wal.first_none hf
      rw [h1.1, h1.2]
      have HS := Lib.hid (HA.out.stop hf)
      clear h1 hf
      go_wp2_with fail
      try rw [Exit.noGoto_ret]
      go_ret2
      exact ⟨_, by rw [HS.out]; rfl, by rw [HS.out]; exact hrow2, hO⟩
    | some xn =>
      obtain ⟨x, n⟩ := xn
      have h1 := Wal.first_some hf
      rw [h1.1, h1.2]
      have hp := Wal.first_pos hf
      rw [List.length_drop, HL.out] at hp
      obtain ⟨hp1, hp2⟩ := hp
      have HS := Lib.hid (HA.out.step hf)
      clear h1 hf
      have hnz : ((n : Int) == 0) = false := by simp; omega
      go_wp2_with (first
        | (at_builtin; refine wpList_append_str _ rfl _ _ rfl w.heap.size _ (done.map textOf) (textOf x) ⟨w2.heap.size, 0, none⟩ 1 rfl (hrow2.keeps ((Only.refl NoBlock _).alloc _) (fun _ _ h => h)) rfl ?_ ?_ ?_ ?_; (exact cell_str _ _ _ _ rfl); (simp; omega); (simp; omega); intro v' w3 hb3 hg3))
      go_roundw
      case rel =>
        refine ⟨at' + n, done ++ [x], by omega, by simp; omega, by go_num, by rw [List.map_append]; exact hb3, (hO.alloc _).appended (hrow2.keeps ((Only.refl NoBlock _).alloc _) (fun _ _ h => h)) (Nat.le_refl _) hg3, HS⟩
      case measure => simp [intOf]; omega

end Go.Proofs.Ytfmpmdkedpollaa
