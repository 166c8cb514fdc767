/- The program's wal.Scan: the records that the plain lists say. -/
import Derived.Test.YtekmjhenhgmpgaaFrame5
import Derived.Test.YtekmjhenhgmpgaaStrs
import Derived.WalkMore
import Derived.Deep.LoopGhost
namespace Go.Proofs.Ytekmjhenhgmpgaa
open Go.RowKit

theorem BytesIn.take {w : World} {ao : Option Addr} {l : List Int} (h : BytesIn w ao l) (n : Nat) : BytesIn w ao (l.take n) :=
  ⟨fun x hx => h.wf x (List.mem_of_mem_take hx), by have := h.len; rw [List.length_take]; omega, fun i hi => by
    rw [List.length_take] at hi
    obtain ⟨b, off, e, hc⟩ := h.cell i (by omega)
    refine ⟨b, off, e, ?_⟩
    rw [hc, List.getD_eq_getElem?_getD, List.getD_eq_getElem?_getD, List.getElem?_take, if_pos (by omega)]⟩

namespace Sc
/-- a place of the scan: done is what stands ahead of it -/
def At (r : List Int) (at' : Nat) (done : List (List Int)) : Prop := Wal.scan r = (done ++ (Wal.scan (r.drop at')).1, at' + (Wal.scan (r.drop at')).2)
theorem At.start (r : List Int) : At r 0 [] := by unfold At; simp
theorem At.stop {r : List Int} {at' : Nat} {done : List (List Int)} (h : At r at' done) (hf : Wal.first (r.drop at') = none) : Wal.scan r = (done, at') := by
  unfold At at h
  rw [Wal.scan_none hf] at h
  simpa using h
theorem At.step {r x : List Int} {at' n : Nat} {done : List (List Int)} (h : At r at' done) (hf : Wal.first (r.drop at') = some (x, n)) : At r (at' + n) (done ++ [x]) := by
  unfold At at h ⊢
  rw [Wal.scan_some hf] at h
  rw [List.drop_drop] at h
  simpa [Nat.add_assoc] using h
/-- no zero in the first n places -/
def Clear (r : List Int) (n : Nat) : Prop := ∀ x ∈ r.take n, x ≠ 0
theorem Clear.start (r : List Int) : Clear r 0 := by intro x hx; simp at hx
theorem Clear.step {r : List Int} {n : Nat} (h : Clear r n) (hn : n < r.length) (hc : r.getD n 0 ≠ 0) : Clear r (n + 1) := by
  intro x hx
  rw [List.take_add_one, List.getElem?_eq_getElem hn] at hx
  rcases List.mem_append.1 hx with hx | hx
  · exact h x hx
  · rw [List.getD_eq_getElem?_getD, List.getElem?_eq_getElem hn] at hc
    simp at hx
    subst hx
    simpa using hc
theorem Clear.full {r : List Int} {n : Nat} (h : Clear r n) (hn : n = r.length) : Wal.first r = none := by
  subst hn
  unfold Clear at h
  rw [List.take_length] at h
  unfold Wal.first
  rw [if_pos (Wal.zero_none h)]
theorem Clear.zero {r : List Int} {n : Nat} (h : Clear r n) (hn : n < r.length) (hc : r.getD n 0 = 0) : Stuff.zero r = n := by
  have e : r = r.take n ++ 0 :: r.drop (n + 1) := by
    have h1 := (List.take_append_drop n r).symm
    rw [List.drop_eq_getElem_cons hn] at h1
    rw [List.getD_eq_getElem?_getD, List.getElem?_eq_getElem hn, Option.getD_some] at hc
    rw [hc] at h1
    exact h1
  conv => lhs; rw [e]
  rw [Wal.zero_append h, List.length_take]
  omega
theorem first_dec {r : List Int} {n : Nat} (hz : Stuff.zero r = n) (hn : n < r.length) : Wal.first r = match Stuff.dec (r.take n) with
    | none => none
    | some b => match Wal.rec b with
      | none => none
      | some x => some (x, n + 1) := by
  subst hz
  unfold Wal.first
  rw [if_neg (by omega)]
  rfl
theorem or4 {a b c d : Int} (ha0 : 0 ≤ a) (ha : a ≤ 255) (hb0 : 0 ≤ b) (hb : b ≤ 255) (hc0 : 0 ≤ c) (hc : c ≤ 255) (hd0 : 0 ≤ d) (hd : d ≤ 255) :
    bits BinOp.or IntKind.u32 (bits BinOp.or IntKind.u32 (bits BinOp.or IntKind.u32 (a * 16777216) (b * 65536)) (c * 256)) d = a * 16777216 + b * 65536 + c * 256 + d := by
  obtain ⟨a, rfl⟩ := Int.eq_ofNat_of_zero_le ha0
  obtain ⟨b, rfl⟩ := Int.eq_ofNat_of_zero_le hb0
  obtain ⟨c, rfl⟩ := Int.eq_ofNat_of_zero_le hc0
  obtain ⟨d, rfl⟩ := Int.eq_ofNat_of_zero_le hd0
  have or_u : ∀ x y : Nat, x < 4294967296 → y < 4294967296 → bits BinOp.or IntKind.u32 (x : Int) (y : Int) = ((x ||| y : Nat) : Int) := by
    intro x y hx hy
    unfold bits
    simp only [IntKind.wrap_u32]
    show ((BitVec.ofInt 32 (x : Int) ||| BitVec.ofInt 32 (y : Int)).toNat : Int) % 4294967296 = _
    rw [BitVec.toNat_or, BitVec.ofInt_natCast, BitVec.ofInt_natCast, BitVec.toNat_ofNat, BitVec.toNat_ofNat, Nat.mod_eq_of_lt hx, Nat.mod_eq_of_lt hy]
    have := Nat.or_lt_two_pow (n := 32) hx hy
    omega
  have add_or : ∀ (x k y : Nat), y < 2 ^ k → x * 2 ^ k ||| y = x * 2 ^ k + y := by
    intro x k y hy
    have := Nat.shiftLeft_add_eq_or_of_lt hy x
    rw [Nat.shiftLeft_eq] at this
    exact this.symm
  have e1 : ((a : Int) * 16777216) = ((a * 16777216 : Nat) : Int) := by omega
  have e2 : ((b : Int) * 65536) = ((b * 65536 : Nat) : Int) := by omega
  have e3 : ((c : Int) * 256) = ((c * 256 : Nat) : Int) := by omega
  have f1 : a * 16777216 ||| b * 65536 = (a * 256 + b) * 65536 := by
    have := add_or a 24 (b * 65536) (by omega)
    simp only [Nat.reducePow] at this
    rw [this]
    omega
  have f2 : (a * 256 + b) * 65536 ||| c * 256 = ((a * 256 + b) * 256 + c) * 256 := by
    have := add_or (a * 256 + b) 16 (c * 256) (by omega)
    simp only [Nat.reducePow] at this
    rw [this]
    omega
  have f3 : ((a * 256 + b) * 256 + c) * 256 ||| d = ((a * 256 + b) * 256 + c) * 256 + d := by
    have := add_or ((a * 256 + b) * 256 + c) 8 d (by omega)
    simp only [Nat.reducePow] at this
    exact this
  rw [e1, e2, e3, or_u _ _ (by omega) (by omega), f1, or_u _ _ (by omega) (by omega), f2, or_u _ _ (by omega) (by omega), f3]
  omega
theorem rec_code {b : List Int} {m : Nat} {x1 x2 x3 x4 : Int} (hb : b.length = m + 4) (hx : b.getD m 0 = x1 ∧ b.getD (m + 1) 0 = x2 ∧ b.getD (m + 2) 0 = x3 ∧ b.getD (m + 3) 0 = x4)
    (h1 : 0 ≤ x1 ∧ x1 ≤ 255) (h2 : 0 ≤ x2 ∧ x2 ≤ 255) (h3 : 0 ≤ x3 ∧ x3 ≤ 255) (h4 : 0 ≤ x4 ∧ x4 ≤ 255) :
    Wal.rec b = if Crc.add 0 (b.take m) = x1 * 16777216 + x2 * 65536 + x3 * 256 + x4 ∧ m ≤ 65536 then some (b.take m) else none := by
  have hm : b.length - 4 = m := by omega
  have ht : Wal.tail b = [x1, x2, x3, x4] := by
    unfold Wal.tail
    rw [hm]
    obtain ⟨e1, e2, e3, e4⟩ := hx
    refine List.ext_getElem? fun i => ?_
    rw [List.getElem?_drop]
    match i with
    | 0 => show b[m]? = some x1; rw [← e1, List.getD_eq_getElem?_getD, List.getElem?_eq_getElem (by omega)]; rfl
    | 1 => show b[m + 1]? = some x2; rw [← e2, List.getD_eq_getElem?_getD, List.getElem?_eq_getElem (by omega)]; rfl
    | 2 => show b[m + 2]? = some x3; rw [← e3, List.getD_eq_getElem?_getD, List.getElem?_eq_getElem (by omega)]; rfl
    | 3 => show b[m + 3]? = some x4; rw [← e4, List.getD_eq_getElem?_getD, List.getElem?_eq_getElem (by omega)]; rfl
    | n + 4 => rw [List.getElem?_eq_none (by omega)]; rfl
  unfold Wal.rec
  rw [if_neg (by omega), ht]
  have hbd : Wal.body b = b.take m := by unfold Wal.body; rw [hm]
  rw [hbd, List.length_take, hb, show min m (m + 4) = m from by omega]
  obtain ⟨hc0, hc1⟩ := Wal.crc_U (b.take m)
  generalize Crc.add 0 (b.take m) = c at hc0 hc1 ⊢
  have hiff : [x1, x2, x3, x4] = Wal.be4 c ↔ c = x1 * 16777216 + x2 * 65536 + x3 * 256 + x4 := by
    simp only [Wal.be4, List.cons.injEq, and_true]
    constructor
    · rintro ⟨q1, q2, q3, q4⟩; omega
    · intro h; refine ⟨?_, ?_, ?_, ?_⟩ <;> omega
  by_cases h : c = x1 * 16777216 + x2 * 65536 + x3 * 256 + x4 ∧ m ≤ 65536
  · rw [if_pos h, if_pos ⟨hiff.2 h.1, h.2⟩]
  · rw [if_neg h, if_neg (fun g => h ⟨hiff.1 g.1, g.2⟩)]
theorem crc_len (w : World) (ao : Option Addr) (cap n : Nat) (l : List Int) (hl : BytesIn w ao l) (hn : l.length = n) :
    Calls Try.prog 84 #[.slice ao n cap] w fun e w' => e = .returned (.int .u32 (Crc.add 0 l)) ∧ w = w' := by
  subst hn
  exact crc_sum_at w ao cap l hl
end Sc

set_option maxRecDepth 100000 in
set_option maxHeartbeats 3000000 in
theorem scan_at (w : World) (s : ByteArray) (hs : s.size ≤ 1000000000) :
    Calls Try.prog 60 #[.string s] w fun e w' => ∃ v, e = .returned (.tuple #[v, .int .i64 (Wal.scan (nums s)).2]) ∧ Strs w' w.heap.size v ((Wal.scan (nums s)).1.map textOf) ∧ Only NoBlock w w' := by
  have hl : (nums s).length = s.size := nums_length s
  have HL := Lib.hid hl
  clear hl
  go_enter Try.func60, Try.ntmps60
  go_wp2_with fail
  go_step3
  go_wp2_with fail
  go_step3
  go_wp2_with fail
  go_loopg [4, 5] (s.size + 1) (fun gk v4 v5 wr => ∃ (at' : Nat) (done : List (List Int)), at' + gk = s.size + 1 ∧ at' ≤ s.size ∧ done.length ≤ at' ∧ v5 = .int .i64 at' ∧ Strs wr w.heap.size v4 (done.map textOf) ∧ Only NoBlock w wr ∧ RowKit.Hid (Sc.At (nums s) at' done))
  case atStart => exact ⟨0, [], by omega, by omega, by simp, rfl, Strs.nil _ _, Only.refl _ _, Lib.hid (Sc.At.start _)⟩
  case round =>
    obtain ⟨at', done, hgk, ha, hdl, rfl, hrow, ho, HA⟩ := hrel
    have hz := ho.size
    go_wp2_with fail
    go_loopg [6] (s.size + 1) (fun gi v6 wx => ∃ n : Nat, n + gi = s.size + 1 ∧ at' + n ≤ s.size ∧ v6 = .int .i64 n ∧ wx = wr ∧ RowKit.Hid (Sc.Clear ((nums s).drop at') n))
    case atStart => exact ⟨0, by omega, by omega, rfl, rfl, Lib.hid (Sc.Clear.start _)⟩
    case round =>
      obtain ⟨n, hgn, hn, rfl, rfl, HC⟩ := hrel
      by_cases hlt : at' + n < s.size
      · have hg := nums_get s (at' + n) hlt
        have hdr : ((nums s).drop at').getD n 0 = (nums s).getD (at' + n) 0 := by rw [List.getD_eq_getElem?_getD, List.getD_eq_getElem?_getD, List.getElem?_drop]
        have hdl2 : n < ((nums s).drop at').length := by rw [List.length_drop, HL.out]; omega
        by_cases hc : (nums s).getD (at' + n) 0 = 0
        · have hz0 : Stuff.zero ((nums s).drop at') = n := HC.out.zero hdl2 (by rw [hdr]; exact hc)
          have HZ := Lib.hid (Sc.first_dec hz0 hdl2)
          clear hz0 hdr hdl2
          have hb0 : (((s[at' + n]'hlt).toNat : Int) == 0) = true := by rw [← hg, hc]; rfl
          clear hc hg
          go_wp2_with (first
            | (refine wpList_conv_bytes _ rfl _ _ rfl Cv.u_string Cv.u_byte (s.extract at' (at' + n)) rfl ?_ ?_; (simp; unfold maxLen; omega); intro g2 cap2 w2 hc2 hg2 ho2))
          have hne : nums (s.extract at' (at' + n)) = ((nums s).drop at').take n := by rw [nums_extract]; congr 1; omega
          have hnl : (nums (s.extract at' (at' + n))).length = n := by rw [nums_length]; simp; omega
          have HN := Lib.hid hne
          have HM := Lib.hid hnl
          have hnl1 : (nums (s.extract at' (at' + n))).length ≤ n := by omega
          clear hne hnl
          generalize nums (s.extract at' (at' + n)) = q at hc2 HN HM hnl1 ⊢
          refine (decode_at w2 _ _ q hc2.read hc2.1 hc2.2.1 (by omega)).mono ?_
          rintro e w3 ⟨v, rfl, hb3, ho3⟩
          have hz3 := ho3.size
          have hz2 := ho2.size
          cases hdec : Stuff.dec q with
          | none =>
            rw [show decE none = 2 from rfl]
            have hst : Wal.first ((nums s).drop at') = none := by rw [HZ.out, ← HN.out, hdec]
            have HS := Lib.hid (HA.out.stop hst)
            clear hst hdec
            go_wp2_with fail
            try rw [Exit.noGoto_ret]
            go_ret2
            exact ⟨_, by rw [HS.out]; rfl, by rw [HS.out]; exact (hrow.keeps ho2 (fun _ _ h => h)).keeps ho3 (fun _ _ h => h), (ho.trans ho2).trans ho3⟩
          | some b =>
            rw [show decE (some b) = 0 from rfl]
            rw [hdec] at hb3
            replace hb3 : Bts w3 w2.heap.size v b := hb3
            have HD := Lib.hid hdec
            clear hdec
            have hbw : Wal.Byte b := Wal.dec_byte hc2.2.2.1 HD.out
            have hbl : b.length + 1 ≤ n := by
              have h1 := Stuff.enc_dec (fun c hc => (hc2.2.2.1 c hc).2) HD.out
              have h2 := Stuff.enc_pos b
              rw [h1] at h2
              omega
            have hO : Only NoBlock w w3 := (ho.trans ho2).trans ho3
            have hrow3 : Strs w3 w.heap.size u4 (done.map textOf) := (hrow.keeps ho2 (fun _ _ h => h)).keeps ho3 (fun _ _ h => h)
            by_cases hb4 : b.length < 4
            · have hst : Wal.first ((nums s).drop at') = none := by
                rw [HZ.out, ← HN.out, HD.out]
                simp only [Wal.rec, if_pos hb4]
              have HS := Lib.hid (HA.out.stop hst)
              clear hst
              obtain ⟨ao, cap, rfl⟩ := Bts.shape' hb3
              go_wp2_with fail
              try rw [Exit.noGoto_ret]
              go_ret2
              exact ⟨_, by rw [HS.out]; rfl, by rw [HS.out]; exact hrow3, hO⟩
            · obtain ⟨g3, cap, rfl, hg3, hnc, hcm⟩ := Bts.shape hb3 (by omega)
              have hbi := hb3.read hbw
              obtain ⟨m, hm⟩ : ∃ m, b.length = m + 4 := ⟨b.length - 4, by omega⟩
              have h1 := hbi.at (k := m) (by omega)
              have h2 := hbi.at (k := m + 1) (by omega)
              have h3 := hbi.at (k := m + 2) (by omega)
              have h4 := hbi.at (k := m + 3) (by omega)
              obtain ⟨_, _, e1, hc1, hl1, hu1⟩ := h1
              cases e1
              rw [Nat.zero_add] at hc1
              obtain ⟨_, _, e2, hc2', hl2, hu2⟩ := h2
              cases e2
              rw [Nat.zero_add] at hc2'
              obtain ⟨_, _, e3, hc3, hl3, hu3⟩ := h3
              cases e3
              rw [Nat.zero_add] at hc3
              obtain ⟨_, _, e4, hc4, hl4, hu4⟩ := h4
              cases e4
              rw [Nat.zero_add] at hc4
              have HM4 := Lib.hid hm
              have hm1 : m + 4 ≤ b.length := by omega
              rw [hm]
              clear hm hb4
              generalize hx1 : b.getD m 0 = x1 at hc1 hl1 hu1
              generalize hx2 : b.getD (m + 1) 0 = x2 at hc2' hl2 hu2
              generalize hx3 : b.getD (m + 2) 0 = x3 at hc3 hl3 hu3
              generalize hx4 : b.getD (m + 3) 0 = x4 at hc4 hl4 hu4
              have HX := Lib.hid (And.intro hx1 (And.intro hx2 (And.intro hx3 hx4)))
              clear hx1 hx2 hx3 hx4
              go_wp2_with fail
              have hnc' : m + 4 ≤ cap := by omega
              have hrec := Sc.rec_code HM4.out HX.out ⟨hl1, hu1⟩ ⟨hl2, hu2⟩ ⟨hl3, hu3⟩ ⟨hl4, hu4⟩
              have HR := Lib.hid hrec
              clear hrec
              have HO4 := Lib.hid (Sc.or4 hl1 hu1 hl2 hu2 hl3 hu3 hl4 hu4)
              go_quiet (fail)
              clear hc1 hc2' hc3 hc4
              go_wp2_with fail
              rw [HO4.out]
              clear HO4
              generalize x1 * 16777216 + x2 * 65536 + x3 * 256 + x4 = z at HR ⊢
              refine (Sc.crc_len _ _ _ _ (b.take m) ((hbi.keeps ((Only.refl NoBlock _).drewN _) (fun _ _ h => h)).take m) (by rw [List.length_take]; omega)).mono ?_
              rintro e w4 ⟨rfl, rfl⟩
              have hfin : ∀ (hno : ¬ (Crc.add 0 (b.take m) = z ∧ m ≤ 65536)), Wal.scan (nums s) = (done, at') := by
                intro hno
                refine HA.out.stop ?_
                rw [HZ.out, ← HN.out, HD.out]
                simp only
                rw [HR.out, if_neg hno]
              have HF := Lib.hid hfin
              have hgo : ∀ (hyes : Crc.add 0 (b.take m) = z ∧ m ≤ 65536), Sc.At (nums s) (at' + (n + 1)) (done ++ [b.take m]) := by
                intro hyes
                refine HA.out.step ?_
                rw [HZ.out, ← HN.out, HD.out]
                simp only
                rw [HR.out, if_pos hyes]
              have HG := Lib.hid hgo
              clear hfin hgo HR HX
              by_cases hcz : Crc.add 0 (b.take m) = z
              · have hcb : (Crc.add 0 (b.take m) != z) = false := by rw [hcz]; simp
                by_cases hm6 : m ≤ 65536
                · have HY := Lib.hid (HG.out ⟨hcz, hm6⟩)
                  clear HG HF hcz
                  go_wp2_with (first
                    | (refine wpList_conv_text _ rfl _ _ rfl Cv.u_string Cv.u_byte _ m _ (b.take m) rfl ?_ ?_ ?_; (rw [List.length_take]; omega); (exact (hbi.keeps ((Only.refl NoBlock _).drewN _) (fun _ _ h => h)).take m))
                    | (at_builtin; go_loud (refine wpList_append_str _ rfl _ _ rfl w.heap.size _ (done.map textOf) (textOf (b.take m)) ⟨w3.heap.size, 0, none⟩ 1 rfl (hrow3.keeps (((Only.refl NoBlock _).drewN nq).alloc _) (fun _ _ h => h)) rfl (cell_str _ _ _ _ rfl) (by rw [List.length_map]; omega) ?_ ?_); (simp; omega); intro v' w5 hb5 hg5))
                  go_roundg (s.size - (at' + n))
                  case rel =>
                    refine ⟨at' + (n + 1), done ++ [b.take m], by omega, by omega, by simp; omega, by go_num, by rw [List.map_append]; exact hb5, ?_, HY⟩
                    exact ((hO.drewN _).alloc _).appended (hrow3.keeps (((Only.refl NoBlock _).drewN nq).alloc _) (fun _ _ h => h)) (Nat.le_refl _) hg5
                  case measure => omega
                · have HS := Lib.hid (HF.out (by omega))
                  clear HG HF hcz
                  go_wp2_with fail
                  try rw [Exit.noGoto_ret]
                  go_ret2
                  exact ⟨_, by rw [HS.out]; rfl, by rw [HS.out]; exact hrow3.keeps ((Only.refl NoBlock _).drewN _) (fun _ _ h => h), hO.drewN _⟩
              · have hcb : (Crc.add 0 (b.take m) != z) = true := by simpa using hcz
                have HS := Lib.hid (HF.out (fun h => hcz h.1))
                clear HG HF hcz
                go_wp2_with fail
                try rw [Exit.noGoto_ret]
                go_ret2
                exact ⟨_, by rw [HS.out]; rfl, by rw [HS.out]; exact hrow3.keeps ((Only.refl NoBlock _).drewN _) (fun _ _ h => h), hO.drewN _⟩
        · have hcl := HC.out.step hdl2 (by rw [hdr]; exact hc)
          have HC2 := Lib.hid hcl
          clear hcl hdr hdl2
          have hb0 : (((s[at' + n]'hlt).toNat : Int) == 0) = false := by rw [← hg]; simpa using hc
          clear hc hg
          go_wp2_with fail
          go_roundg (gk - 1)
          case rel => exact ⟨n + 1, by omega, by omega, by go_num, rfl, HC2⟩
          case measure => omega
      · have hst : Wal.first ((nums s).drop at') = none := HC.out.full (by rw [List.length_drop, HL.out]; omega)
        have hsc := HA.out.stop hst
        have HS := Lib.hid hsc
        clear hsc hst
        go_wp2_with fail
        try rw [Exit.noGoto_ret]
        go_ret2
        exact ⟨_, by rw [HS.out]; rfl, by rw [HS.out]; exact hrow, ho⟩

end Go.Proofs.Ytekmjhenhgmpgaa
