/- The program's stuff.Decode: what it takes back is what the plain lists say. -/
import Derived.Test.YtekmjhenhgmpgaaEncode
namespace Go.Proofs.Ytekmjhenhgmpgaa
open Go.RowKit

theorem BytesIn.drop {w : World} {b off : Nat} {l : List Int} (h : BytesIn w (some ⟨b, off, none⟩) l) (m : Nat) : BytesIn w (some ⟨b, off + m, none⟩) (l.drop m) := by
  refine ⟨fun x hx => h.wf x (List.mem_of_mem_drop hx), by rw [List.length_drop]; have := h.len; omega, fun i hi => ⟨b, off + m, rfl, ?_⟩⟩
  rw [List.length_drop] at hi
  obtain ⟨b', off', e, hc⟩ := h.cell (m + i) (by omega)
  cases e
  rw [Nat.add_assoc, hc]
  simp [List.getD_eq_getElem?_getD, List.getElem?_drop]

def decE (o : Option (List Int)) : Int := match o with | some _ => 0 | none => 2
def decL (o : Option (List Int)) : List Int := o.getD []

set_option maxRecDepth 100000 in
set_option maxHeartbeats 3000000 in
theorem decode_at (w : World) (ao : Option Addr) (cap : Nat) (l : List Int) (hl : BytesIn w ao l) (hcap : l.length ≤ cap) (hcm : cap ≤ maxLen) (hlen : l.length ≤ 70000000000000) :
    Calls Try.prog 83 #[.slice ao l.length cap] w fun e w' => ∃ v, e = .returned (.tuple #[v, .int .i64 (decE (Stuff.dec l))]) ∧ Bts w' w.heap.size v (decL (Stuff.dec l)) ∧ Only NoBlock w w' := by
  unfold maxLen at hcm
  go_enter Try.func83, Try.ntmps83
  go_wp2_with fail
  go_loopw [0, 4] (fun v0 v4 wr => ∃ (ao' : Option Addr) (cap' kf : Nat) (r out : List Int), v0 = .slice ao' r.length cap' ∧ BytesIn w ao' r ∧ r.length ≤ cap' ∧ cap' ≤ 2 ^ 63 - 1 ∧ Bts wr w.heap.size v4 out ∧ Only NoBlock w wr ∧
      r.length + out.length ≤ 70000000000000 ∧ r.length < kf ∧ RowKit.Hid (Stuff.dec l = Stuff.decP kf out r)) (fun v0 _ _ => match v0 with | .slice _ n _ => n | _ => 0)
  case atStart => exact ⟨ao, cap, l.length + 1, l, [], rfl, hl, hcap, hcm, Bts.nil _ _, Only.refl _ _, by simpa using hlen, by omega, Lib.hid rfl⟩
  case round =>
    obtain ⟨ao', cap', kf, r, out, rfl, hb, hrc, hcm', hout, ho, hrl, hkf, HD⟩ := hrel
    have hz := ho.size
    cases r with
    | nil =>
      have hnone : Stuff.dec l = none := by rw [HD.out]; cases kf <;> rfl
      have HN := Lib.hid hnone
      clear hnone
      go_wp2_with fail
      go_ret2
      refine ⟨_, by rw [HN.out]; rfl, by rw [HN.out]; exact Bts.nil _ _, ho⟩
    | cons n t =>
      obtain ⟨b, off, rfl, hcell, hn0, hn1⟩ := (hb.keeps ho (fun _ _ h => h)).at (k := 0) (by simp)
      rw [List.getD_cons_zero] at hcell hn0 hn1
      rw [Nat.add_zero] at hcell
      rw [List.length_cons] at hrc hrl hkf ⊢
      by_cases hbad : n ≤ 0 ∨ (t.length : Int) + 1 < n
      · have hnone : Stuff.dec l = none := by rw [HD.out]; cases kf with | zero => rfl | succ kf => unfold Stuff.decP; rw [if_pos hbad]
        have HN := Lib.hid hnone
        clear hnone HD
        by_cases hz0 : n = 0
        · subst hz0
          go_wp2_with fail
          go_ret2
          refine ⟨_, by rw [HN.out]; rfl, by rw [HN.out]; exact Bts.nil _ _, ho⟩
        · go_wp2_with fail
          go_ret2
          refine ⟨_, by rw [HN.out]; rfl, by rw [HN.out]; exact Bts.nil _ _, ho⟩
      · have hnz : (n == 0) = false := by simp; omega
        have hnb : n ≤ (t.length : Int) + 1 := by omega
        have hnp : 1 ≤ n := by omega
        clear hbad
        obtain ⟨m, rfl⟩ : ∃ m : Nat, n = (m : Int) + 1 := ⟨(n - 1).toNat, by omega⟩
        obtain ⟨kf, rfl⟩ : ∃ m, kf = m + 1 := ⟨kf - 1, by omega⟩
        have hmt : m ≤ t.length := by omega
        by_cases hc1 : cap' = 1
        · subst hc1
          obtain rfl : t = [] := List.length_eq_zero_iff.1 (by omega)
          obtain rfl : m = 0 := by simp at hmt; omega
          have hsome : Stuff.dec l = some out := by
            rw [HD.out]
            simp [Stuff.decP]
          have HN := Lib.hid hsome
          clear hsome HD
          go_wp2_with fail
          go_loopw [4, 27] (fun v4 i w2 => i = .int .i64 0 ∧ w2 = wr ∧ Bts w2 w.heap.size v4 out) (fun _ _ _ => 0)
          case atStart => exact ⟨rfl, rfl, hout⟩
          case round =>
            obtain ⟨rfl, rfl, hout2⟩ := hrel
            go_wp2_with fail
            go_ret2
            refine ⟨_, by rw [HN.out]; rfl, by rw [HN.out]; exact hout2, ho⟩
        · go_wp2_with fail
          have hdm : decide (t.length < m) = false := by simp; omega
          rw [hdm]
          clear hdm
          go_loopw [4, 27] (fun v4 i w2 => ∃ (j : Nat) (p : List Int), i = .int .i64 j ∧ j ≤ m ∧ Bts w2 w.heap.size v4 p ∧ Only NoBlock w w2 ∧ out.length + j ≤ p.length ∧ p.length ≤ out.length + j ∧ RowKit.Hid (p = out ++ t.take j ∧ (t.take j).all (fun x => decide (x ≠ 0)) = true)) (fun _ i _ => m - (intOf i).toNat)
          case atStart => exact ⟨0, out, rfl, by omega, hout, ho, by omega, by omega, Lib.hid (by simp)⟩
          case round =>
            obtain ⟨j, p, rfl, hj, hp, ho2, hl1, hl2, HJ⟩ := hrel
            have hz2 := ho2.size
            by_cases hjn : j < m
            · obtain ⟨b', off', e1, hcj, hc0, hc1'⟩ := (hb.keeps ho2 (fun _ _ h => h)).at (k := j + 1) (by simp; omega)
              cases e1
              rw [List.getD_cons_succ] at hcj hc0 hc1'
              have hcj' : wr.cell? ⟨b, off + 1 + j, none⟩ = some (.int .u8 (t.getD j 0)) := by rw [← hcj]; congr 2; omega
              have htk : t.take (j + 1) = t.take j ++ [t.getD j 0] := by rw [List.take_add_one, List.getElem?_eq_getElem (by omega), List.getD_eq_getElem?_getD, List.getElem?_eq_getElem (by omega)]; rfl
              have htm : t.getD j 0 ∈ t.take m := by
                rw [List.getD_eq_getElem?_getD, List.getElem?_eq_getElem (by omega)]
                exact List.mem_take_iff_getElem.2 ⟨j, by omega, rfl⟩
              have HT := Lib.hid htk
              have HM := Lib.hid htm
              clear htk htm hcj
              generalize t.getD j 0 = c at hcj' hc0 hc1' HT HM
              by_cases hc : c = 0
              · subst hc
                have hnone : Stuff.dec l = none := by
                  rw [HD.out]
                  unfold Stuff.decP
                  rw [if_neg (by omega)]
                  have e : ((m : Int) + 1).toNat - 1 = m := by omega
                  rw [e, if_pos]
                  rw [List.all_eq_false]
                  exact ⟨0, HM.out, by simp⟩
                have HN := Lib.hid hnone
                clear hnone HD
                go_wp2_with fail
                go_ret2
                refine ⟨_, by rw [HN.out]; rfl, by rw [HN.out]; exact Bts.nil _ _, ho2⟩
              · go_wp2_with (first
                  | (at_builtin; refine wpList_append_byte _ rfl _ _ rfl w.heap.size _ p c ⟨wr.heap.size, 0, none⟩ 1 rfl (hp.keeps ((Only.refl NoBlock _).alloc _) (fun _ _ h => h)) rfl ?_ ?_ ?_ ?_; (exact cell_byte _ _ _ _ rfl); omega; (simp; omega); intro v' w3 hb3 hg3))
                go_roundw
                case rel =>
                  refine ⟨j + 1, p ++ [c], ?_, by omega, hb3, (ho2.alloc _).appended (hp.keeps ((Only.refl NoBlock _).alloc _) (fun _ _ h => h)) (Nat.le_refl _) hg3, by simp; omega, by simp; omega, Lib.hid ?_⟩
                  · go_num
                  obtain ⟨q1, q2⟩ := HJ.out
                  rw [HT.out]
                  refine ⟨by rw [q1, List.append_assoc], ?_⟩
                  rw [List.all_append, q2]
                  simpa using hc
                case measure => simp [intOf]; omega
            · obtain rfl : j = m := by omega
              have hlt0 : (((j : Int) + 1).toNat - 1) = j := by omega
              have hstep : Stuff.dec l = (if t.length = j then (if (j : Int) + 1 = 255 then none else some (out ++ t)) else Stuff.decP kf (if (j : Int) + 1 < 255 then p ++ [0] else p) (t.drop j)) := by
                rw [HD.out]
                conv => lhs; unfold Stuff.decP
                obtain ⟨q1, q2⟩ := HJ.out
                rw [if_neg (by omega), hlt0, if_neg (by rw [q2]; simp), q1]
              have HS := Lib.hid hstep
              clear hstep hlt0
              by_cases hend : t.length = j
              · have hp2 : p = out ++ t := by obtain ⟨q1, _⟩ := HJ.out; rw [q1, ← hend, List.take_length]
                by_cases h255 : (j : Int) + 1 = 255
                · have hnone : Stuff.dec l = none := by rw [HS.out, if_pos hend, if_pos h255]
                  have HN := Lib.hid hnone
                  clear hnone hp2 HS HD HJ
                  by_cases hcc : cap' = j + 1
                  all_goals
                    go_wp2_with fail
                    go_ret2
                    refine ⟨_, by rw [HN.out]; rfl, by rw [HN.out]; exact Bts.nil _ _, ho2⟩
                · have hsome : Stuff.dec l = some p := by rw [HS.out, if_pos hend, if_neg h255, hp2]
                  have HN := Lib.hid hsome
                  clear hsome hp2 HS HD HJ
                  by_cases hcc : cap' = j + 1
                  all_goals
                    go_wp2_with fail
                    go_ret2
                    refine ⟨_, by rw [HN.out]; rfl, by rw [HN.out]; exact hp, ho2⟩
              · have hrest : Stuff.dec l = Stuff.decP kf (if (j : Int) + 1 < 255 then p ++ [0] else p) (t.drop j) := by rw [HS.out, if_neg hend]
                have HR := Lib.hid hrest
                clear hrest HS
                have hne : t.length ≠ j := hend
                have hbd := hb.drop (j + 1)
                rw [List.drop_succ_cons] at hbd
                have hcc : ¬ cap' = j + 1 := by omega
                clear HD HJ hcell hout
                go_upto_region 18 with fail
                by_cases h255 : (j : Int) + 1 < 255
                · rw [if_pos h255] at HR
                  go_wp2_with (first
                    | (at_builtin; refine wpList_append_byte _ rfl _ _ rfl w.heap.size _ p 0 ⟨wr.heap.size, 0, none⟩ 1 rfl (hp.keeps ((Only.refl NoBlock _).alloc _) (fun _ _ h => h)) rfl ?_ ?_ ?_ ?_; (exact cell_byte _ _ _ _ rfl); omega; (simp; omega); intro v' w3 hb3 hg3))
                  go_roundw
                  case rel => exact ⟨some ⟨b, off + (j + 1), none⟩, cap' - (j + 1), kf, t.drop j, p ++ [0], by simp, hbd, by simp; omega, by omega, hb3, (ho2.alloc _).appended (hp.keeps ((Only.refl NoBlock _).alloc _) (fun _ _ h => h)) (Nat.le_refl _) hg3, by simp; omega, by simp; omega, HR⟩
                  case measure => simp; omega
                · rw [if_neg h255] at HR
                  have hd5 : decide ((j : Int) + 1 < 255) = false := by simp; omega
                  clear h255
                  go_wp2_with fail
                  go_roundw
                  case rel => exact ⟨some ⟨b, off + (j + 1), none⟩, cap' - (j + 1), kf, t.drop j, p, by simp, hbd, by simp; omega, by omega, hp, ho2, by simp; omega, by simp; omega, HR⟩
                  case measure => simp; omega

end Go.Proofs.Ytekmjhenhgmpgaa
