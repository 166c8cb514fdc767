/- The program's log of entries: what may lie where, the last one, a new log. -/
import Derived.Test.YtekmjhenhgmpgaaRlogM
namespace Go.Proofs.Ytekmjhenhgmpgaa
open Go.RowKit
set_option maxRecDepth 100000

theorem configof_at (w : World) (d : ByteArray) (hd : d.size ≤ 1000000000000) :
    Calls Try.prog 95 #[.string d] w fun e w' => e = .returned (.tuple #[.int .u64 (Rl.cfgV d : Nat), .bool (Rl.cfgB d)]) ∧ Only NoBlock w w' := by
  have hV : Pk.numV (nums d) = Rl.cfgV d := rfl
  have hlt : Rl.cfgV d < 18446744073709551616 := Pk.numV_lt (nums_byte d)
  have HB : RowKit.Hid (Rl.cfgB d = ((Pk.numR ⟨nums d, false⟩).done && Qu.soundB (Rl.cfgV d))) := Lib.hid rfl
  have HV := Lib.hid hV
  clear hV
  go_enter Try.func95, Try.ntmps95
  go_wp2_with fail
  refine (rfrom_at w d hd).mono ?_
  rintro e w1 ⟨rfl, hR1, hO1⟩
  go_wp2_with fail
  refine (rnum_at w1 _ _ hR1).mono ?_
  rintro e w2 ⟨rfl, hR2, hO2⟩
  have hO2' : Only NoBlock w w2 := hO1.andThen hO2 (fun k hk h => by omega)
  simp only at hR2 ⊢
  rw [HV.out]
  obtain ⟨c, hc⟩ : ∃ c, Rl.cfgV d = c := ⟨_, rfl⟩
  rw [hc] at hlt HB ⊢
  have HC := Lib.hid hc
  clear hc HV
  go_wp2_with fail
  refine (rdone_at w2 _ _ hR2).mono ?_
  rintro e w3 ⟨rfl, q, rfl⟩
  cases hdn : (Pk.numR ⟨nums d, false⟩).done with
  | false =>
    rw [hdn] at HB
    have hb : Rl.cfgB d = false := HB.out
    have HB2 := Lib.hid hb
    clear hb HB hdn
    go_wp2_with fail
    go_ret2
    exact ⟨by rw [HB2.out, HC.out]; rfl, hO2'.drewN q⟩
  | true =>
    rw [hdn] at HB
    have hb : Rl.cfgB d = Qu.soundB c := HB.out
    have HB2 := Lib.hid hb
    clear hb HB hdn
    go_wp2_with fail
    refine (sound_at _ c (by omega)).mono ?_
    rintro e w4 ⟨rfl, rfl⟩
    generalize Qu.soundB c = b at HB2 ⊢
    go_wp2_with fail
    go_ret2
    exact ⟨by rw [HB2.out, HC.out]; rfl, hO2'.drewN q⟩

set_option maxHeartbeats 2000000 in
theorem soundent_at (w : World) (e : Ent) (he : e.Wf) (index term : Nat) (hi : index < 18446744073709551616) (ht : term < 18446744073709551616) :
    Calls Try.prog 88 #[.agg #[.int .u64 e.term, .int .u64 e.index, .int .i64 e.kind, .string e.data], .int .u64 index, .int .u64 term] w fun en w' => en = .returned (.bool (Rl.sound e index term)) ∧ Only NoBlock w w' := by
  obtain ⟨et, ei, ek, ed⟩ := e
  obtain ⟨h1, h2, h3, h4⟩ := he
  simp only at h1 h2 h3 h4 ⊢
  have hbx := Blk.made w #[.int .u64 et, .int .u64 ei, .int .i64 ek, .string ed] 77
  have hn := (Only.refl NoBlock w).alloc (Obj.cells #[.int .u64 et, .int .u64 ei, .int .i64 ek, .string ed] 77)
  go_enter Try.func88, Try.ntmps88
  go_upto_region 1 with fail
  generalize w.alloc (Obj.cells #[.int .u64 et, .int .u64 ei, .int .i64 ek, .string ed] 77) = w1 at hbx hn ⊢
  have b0 : w1.cell? ⟨w.heap.size, 0, none⟩ = some (.int .u64 et) := by rw [hbx.cell]; rfl
  have b1 : w1.cell? ⟨w.heap.size, 1, none⟩ = some (.int .u64 ei) := by rw [hbx.cell]; rfl
  have b2 : w1.cell? ⟨w.heap.size, 2, none⟩ = some (.int .i64 ek) := by rw [hbx.cell]; rfl
  have b3 : w1.cell? ⟨w.heap.size, 3, none⟩ = some (.string ed) := by rw [hbx.cell]; rfl
  have no : Rl.plainOk ⟨et, ei, ek, ed⟩ index term = false → RowKit.Hid (Rl.sound ⟨et, ei, ek, ed⟩ index term = false) := fun h => Lib.hid (by unfold Rl.sound; rw [h]; rfl)
  have NO := Lib.hid no
  clear no
  by_cases k0 : index = 0
  · have HN := NO.out (by unfold Rl.plainOk; simp [k0])
    subst k0
    go_wp2_with fail
    go_ret
    exact ⟨by rw [HN.out]; rfl, hn⟩
  have d0 : ((index : Int) == 0) = false := by simp; omega
  by_cases k1 : ei ≠ index
  · have HN := NO.out (by unfold Rl.plainOk; simp [k1])
    have d1 : ((ei : Int) != (index : Int)) = true := by simp; omega
    clear k0 k1
    go_wp2_with fail
    go_ret
    exact ⟨by rw [HN.out]; rfl, hn⟩
  have d1 : ((ei : Int) != (index : Int)) = false := by simp; omega
  by_cases k2 : et < term
  · have HN := NO.out (by unfold Rl.plainOk; simp; intros; omega)
    have d2 : decide (et < term) = true := by simpa using k2
    clear k0 k1 k2
    go_wp2_with fail
    go_ret
    exact ⟨by rw [HN.out]; rfl, hn⟩
  have d2 : decide (et < term) = false := by simpa using k2
  by_cases k3 : ek < 0
  · have HN := NO.out (by unfold Rl.plainOk; simp; intros; omega)
    have d3 : decide (ek < 0) = true := by simpa using k3
    clear k0 k1 k2 k3
    go_wp2_with fail
    go_ret
    exact ⟨by rw [HN.out]; rfl, hn⟩
  have d3 : decide (ek < 0) = false := by simpa using k3
  by_cases k4 : 2 < ek
  · have HN := NO.out (by unfold Rl.plainOk; simp; intros; omega)
    have d4 : decide (2 < ek) = true := by simpa using k4
    clear k0 k1 k2 k3 k4
    go_wp2_with fail
    go_ret
    exact ⟨by rw [HN.out]; rfl, hn⟩
  have d4 : decide (2 < ek) = false := by simpa using k4
  by_cases k5 : 32768 < ed.size
  · have HN := NO.out (by unfold Rl.plainOk; simp; intros; omega)
    have d5 : decide ((32768 : Int) < (ed.size : Int)) = true := by simp; omega
    clear k0 k1 k2 k3 k4 k5
    go_wp2_with fail
    go_ret
    exact ⟨by rw [HN.out]; rfl, hn⟩
  have d5 : decide ((32768 : Int) < (ed.size : Int)) = false := by simp; omega
  have HY : RowKit.Hid (Rl.sound ⟨et, ei, ek, ed⟩ index term = (decide (ek ≠ 2) || Rl.cfgB ed)) := Lib.hid (by
    unfold Rl.sound
    have : Rl.plainOk ⟨et, ei, ek, ed⟩ index term = true := by unfold Rl.plainOk; simp only [decide_eq_true_eq]; omega
    rw [this, Bool.true_and])
  clear NO
  have hdd : ed.size ≤ 1000000000000 := by omega
  clear k0 k1 k2 k3 k4 k5
  go_wp2_with fail
  refine (configof_at w1 ed hdd).mono ?_
  rintro en w2 ⟨rfl, hO2⟩
  have b2' : w2.cell? ⟨w.heap.size, 2, none⟩ = some (.int .i64 ek) := by rw [(hbx.keeps hO2 (fun h => h)).cell]; rfl
  clear b0 b1 b2 b3
  by_cases k6 : ek = 2
  · subst k6
    generalize Rl.cfgB ed = b at HY ⊢
    go_wp2_with fail
    go_ret
    exact ⟨by rw [HY.out]; rfl, hn.trans hO2⟩
  · have d6 : (ek != 2) = true := by simpa using k6
    have hy : Rl.sound ⟨et, ei, ek, ed⟩ index term = true := by rw [HY.out]; simp [k6]
    have HY2 := Lib.hid hy
    clear hy HY k6
    go_wp2_with fail
    go_ret
    exact ⟨by rw [HY2.out]; rfl, hn.trans hO2⟩


/-- block g is a log: a snapshot, and entries in a row of the call's own -/
def RlogAt (w : World) (base g : Nat) (s : Snp) (es : List Ent) : Prop := ∃ v, Blk w g #[.int .u64 s.index, .int .u64 s.term, .int .u64 s.config, .string s.data, v] 157 ∧ Ents w base v es
theorem RlogAt.keeps {S : Nat → Prop} {w w' : World} {base g : Nat} {s : Snp} {es : List Ent} (h : RlogAt w base g s es) (ho : Only S w w') (hg : ¬ S g) (hb : ∀ k, S k → k < base) : RlogAt w' base g s es := by
  obtain ⟨v, h1, h2⟩ := h
  refine ⟨v, h1.keeps ho hg, h2.keeps ho fun k hk e => ?_⟩
  have h3 := (World.ownsRow.lt h2.1 k hk).1
  have := hb k e
  omega

theorem getLast_getD {l : List Ent} (h : 0 < l.length) : l.getLast? = some (l.getD (l.length - 1) Ent.zero) := by
  rw [List.getLast?_eq_getElem?, List.getD_eq_getElem?_getD, List.getElem?_eq_getElem (by omega)]
  rfl

set_option maxHeartbeats 2000000 in
theorem rloglast_at (w : World) (base g : Nat) (s : Snp) (es : List Ent) (h : RlogAt w base g s es) (hl : es.length ≤ 1000000000000) :
    Calls Try.prog 87 #[.pointer (some ⟨g, 0, none⟩)] w fun e w' => e = .returned (.tuple #[.int .u64 (Rl.lastI s es : Nat), .int .u64 (Rl.lastT s es : Nat)]) ∧ ∃ q, w' = w.drewN q := by
  obtain ⟨v, hb, he⟩ := h
  obtain ⟨ao, cap, rfl⟩ := he.shape
  obtain ⟨hin, -, -⟩ := he.read (by omega)
  have c0 := hb.cell 0
  have c1 := hb.cell 1
  have c4 := hb.cell 4
  simp at c0 c1 c4
  by_cases hn : 0 < es.length
  · have hlast := getLast_getD hn
    have HI : RowKit.Hid (Rl.lastI s es = (es.getD (es.length - 1) Ent.zero).index) := Lib.hid (by unfold Rl.lastI; rw [hlast])
    have HT : RowKit.Hid (Rl.lastT s es = (es.getD (es.length - 1) Ent.zero).term) := Lib.hid (by unfold Rl.lastT; rw [hlast])
    obtain ⟨b, off, rfl, e0, e1, -, -⟩ := hin.cell (es.length - 1) (by omega)
    obtain ⟨n, hn1⟩ : ∃ n, es.length = n + 1 := ⟨es.length - 1, by omega⟩
    rw [hn1] at c4 e0 e1 HI HT hl
    rw [Nat.add_sub_cancel] at e0 e1 HI HT
    generalize es.getD n Ent.zero = x at e0 e1 HI HT
    clear hlast hn hin he hb c0 c1 hn1
    go_enter Try.func87, Try.ntmps87
    go_wp2_with fail
    go_quiet (fail)
    go_wp2_with fail
    go_ret2
    exact ⟨by rw [HI.out, HT.out]; rfl, _, rfl⟩
  · obtain rfl : es = [] := List.length_eq_zero_iff.1 (by omega)
    clear hin he
    go_enter Try.func87, Try.ntmps87
    go_wp2_with fail
    go_quiet (fail)
    go_wp2_with fail
    go_ret2
    exact ⟨rfl, _, rfl⟩


namespace Rl
theorem newOk_no {s : Snp} {l : List Ent} {k : Nat} (hk : k < l.length) (h : sound (l.getD k Ent.zero) (next (lastI s (l.take k))) (lastT s (l.take k)) = false) : newOk s l = false := by
  cases hn : newOk s l with
  | false => rfl
  | true =>
    unfold newOk at hn
    rw [Bool.and_eq_true] at hn
    have := chain_at l s.index s.term k hk hn.2
    unfold lastI lastT at h
    rw [this] at h
    cases h
theorem newOk_cfg {s : Snp} {l : List Ent} (h : Qu.soundB s.config = false) : newOk s l = false := by unfold newOk; rw [h]; rfl
end Rl

theorem ent_made (w : World) (e : Ent) (t : TypeId) :
    (w.alloc (.cells #[.int .u64 e.term, .int .u64 e.index, .int .i64 e.kind, .string e.data] t)).drew.cell? ⟨w.heap.size, 0, none⟩ = some (.int .u64 e.term) ∧
    (w.alloc (.cells #[.int .u64 e.term, .int .u64 e.index, .int .i64 e.kind, .string e.data] t)).drew.cell? ⟨w.heap.size, 1, none⟩ = some (.int .u64 e.index) ∧
    (w.alloc (.cells #[.int .u64 e.term, .int .u64 e.index, .int .i64 e.kind, .string e.data] t)).drew.cell? ⟨w.heap.size, 2, none⟩ = some (.int .i64 e.kind) ∧
    (w.alloc (.cells #[.int .u64 e.term, .int .u64 e.index, .int .i64 e.kind, .string e.data] t)).drew.cell? ⟨w.heap.size, 3, none⟩ = some (.string e.data) := by
  have h := (Blk.made w #[.int .u64 e.term, .int .u64 e.index, .int .i64 e.kind, .string e.data] t).drew
  exact ⟨by rw [h.cell]; rfl, by rw [h.cell]; rfl, by rw [h.cell]; rfl, by rw [h.cell]; rfl⟩
/-- what a new log answers -/
def RlogEnd (s : Snp) (l : List Ent) (w : World) (e : Ending) (w' : World) : Prop :=
  Only NoBlock w w' ∧ ((Rl.newOk s l = true ∧ ∃ g, e = .returned (.tuple #[.pointer (some ⟨g, 0, none⟩), .int .i64 0]) ∧ w.heap.size ≤ g ∧ RlogAt w' w.heap.size g s l) ∨
    (Rl.newOk s l = false ∧ e = .returned (.tuple #[.pointer none, .int .i64 1])))

set_option maxHeartbeats 4000000 in
theorem rlognew_at (w : World) (s : Snp) (hs : s.Wf) (ao : Option Addr) (cap : Nat) (l : List Ent) (hl : EntsIn w ao l) (hll : l.length ≤ 1000000000000) :
    Calls Try.prog 67 #[.agg #[.int .u64 s.index, .int .u64 s.term, .int .u64 s.config, .string s.data], .slice ao l.length cap] w (RlogEnd s l w) := by
  obtain ⟨si, st, sc, sd⟩ := s
  obtain ⟨hs1, hs2, hs3, hs4⟩ := hs
  simp only at hs1 hs2 hs3 hs4 ⊢
  have hbx := Blk.made w #[.int .u64 si, .int .u64 st, .int .u64 sc, .string sd] 39
  have hn := (Only.refl NoBlock w).alloc (Obj.cells #[.int .u64 si, .int .u64 st, .int .u64 sc, .string sd] 39)
  have hz1 : (w.alloc (Obj.cells #[.int .u64 si, .int .u64 st, .int .u64 sc, .string sd] 39)).heap.size = w.heap.size + 1 := by simp
  go_enter Try.func67, Try.ntmps67
  go_upto_region 1 with fail
  generalize w.alloc (Obj.cells #[.int .u64 si, .int .u64 st, .int .u64 sc, .string sd] 39) = w1 at hbx hn hz1 ⊢
  have b0 : w1.cell? ⟨w.heap.size, 0, none⟩ = some (.int .u64 si) := by rw [hbx.cell]; rfl
  have b1 : w1.cell? ⟨w.heap.size, 1, none⟩ = some (.int .u64 st) := by rw [hbx.cell]; rfl
  have b2 : w1.cell? ⟨w.heap.size, 2, none⟩ = some (.int .u64 sc) := by rw [hbx.cell]; rfl
  have b3 : w1.cell? ⟨w.heap.size, 3, none⟩ = some (.string sd) := by rw [hbx.cell]; rfl
  go_wp2_with fail
  refine (sound_at w1 sc (by omega)).mono ?_
  rintro e w2 ⟨rfl, rfl⟩
  cases hq : Qu.soundB sc with
  | false =>
    have HN := Lib.hid (Rl.newOk_cfg (s := ⟨si, st, sc, sd⟩) (l := l) hq)
    clear hq
    go_wp2_with fail
    go_ret2
    exact ⟨hn, .inr ⟨HN.out, rfl⟩⟩
  | true =>
    have HQ := Lib.hid hq
    clear hq
    go_upto_region 4 with fail
    have hg2 := Blk.made w1 #[.int .u64 si, .int .u64 st, .int .u64 sc, .string sd, .slice none 0 0] 157
    have hn2 := hn.alloc (Obj.cells #[.int .u64 si, .int .u64 st, .int .u64 sc, .string sd, .slice none 0 0] 157)
    rw [hz1] at hg2
    generalize w1.alloc (Obj.cells #[.int .u64 si, .int .u64 st, .int .u64 sc, .string sd, .slice none 0 0] 157) = w2 at hg2 hn2 ⊢
    have hR2 : RlogAt w2 w.heap.size (w.heap.size + 1) ⟨si, st, sc, sd⟩ [] := ⟨_, hg2, Ents.nil _ _⟩
    clear hbx hn hz1 b0 b1 b2 b3 hg2
    go_wp2_with fail
    go_loopw [20] (fun v20 wr => ∃ k : Nat, k ≤ l.length ∧ v20 = .int .i64 k ∧ RlogAt wr w.heap.size (w.heap.size + 1) ⟨si, st, sc, sd⟩ (l.take k) ∧ Only NoBlock w wr ∧ RowKit.Hid (Rl.chain si st (l.take k) = true)) (fun v20 _ => l.length - (intOf v20).toNat)
    case atStart => exact ⟨0, by omega, rfl, hR2, hn2, Lib.hid rfl⟩
    case round =>
      clear hR2 hn2
      obtain ⟨k, hk, rfl, hR, ho, HC⟩ := hrel
      by_cases hlt : k < l.length
      · obtain ⟨b, off, rfl, e0, e1, e2, e3⟩ := (hl.keeps ho (fun _ _ h => h)).cell k hlt
        have hwf := hl.at_wf hlt
        have hts : l.take (k + 1) = l.take k ++ [l.getD k Ent.zero] := by rw [List.take_add_one, List.getElem?_eq_getElem hlt, List.getD_eq_getElem?_getD, List.getElem?_eq_getElem hlt]; rfl
        have hnk : ∀ x, Rl.sound (l.getD k Ent.zero) (Rl.next (Rl.lastI ⟨si, st, sc, sd⟩ (l.take k))) (Rl.lastT ⟨si, st, sc, sd⟩ (l.take k)) = x → x = false → Rl.newOk ⟨si, st, sc, sd⟩ l = false := fun x h hx => Rl.newOk_no hlt (h.trans hx)
        have HNK := Lib.hid hnk
        have HTS := Lib.hid hts
        clear hnk hts
        generalize l.getD k Ent.zero = en at e0 e1 e2 e3 hwf HNK HTS
        go_upto_region 7 with fail
        have hbE := Blk.made wr #[.int .u64 en.term, .int .u64 en.index, .int .i64 en.kind, .string en.data] 77
        have hoE := ho.alloc (Obj.cells #[.int .u64 en.term, .int .u64 en.index, .int .i64 en.kind, .string en.data] 77)
        have hRE := hR.keeps ((Only.refl NoBlock wr).alloc (Obj.cells #[.int .u64 en.term, .int .u64 en.index, .int .i64 en.kind, .string en.data] 77)) (fun h => h) (fun _ h => h.elim)
        have hzE : wr.heap.size < (wr.alloc (Obj.cells #[.int .u64 en.term, .int .u64 en.index, .int .i64 en.kind, .string en.data] 77)).heap.size := by simp
        have hzw := ho.size
        generalize wr.heap.size = E at hbE hzE hzw ⊢
        generalize wr.alloc (Obj.cells #[.int .u64 en.term, .int .u64 en.index, .int .i64 en.kind, .string en.data] 77) = w3 at hbE hoE hRE hzE ⊢
        clear e0 e1 e2 e3 hR ho
        have htl : (l.take k).length ≤ 1000000000000 := by rw [List.length_take]; omega
        go_wp2_with fail
        refine (rloglast_at w3 _ _ _ _ hRE htl).mono ?_
        rintro e w4 ⟨rfl, q, rfl⟩
        have hR4 := hRE.keeps ((Only.refl NoBlock w3).drewN q) (fun h => h) (fun _ h => h.elim)
        have ho4 := hoE.drewN q
        have hb4 : Blk (w3.drewN q) E _ _ := hbE.drewN q
        clear hRE hoE hbE
        have hli : Rl.lastI ⟨si, st, sc, sd⟩ (l.take k) < 18446744073709551616 := by
          unfold Rl.lastI
          split
          · exact hs1
          next x hx => exact (hl.wf x (List.mem_of_mem_take (List.mem_of_getLast? hx))).index
        have hlt2 : Rl.lastT ⟨si, st, sc, sd⟩ (l.take k) < 18446744073709551616 := by
          unfold Rl.lastT
          split
          · exact hs2
          next x hx => exact (hl.wf x (List.mem_of_mem_take (List.mem_of_getLast? hx))).term
        have hcs := Rl.chain_snoc (l.take k) en si st
        have HCS : RowKit.Hid (Rl.chain si st (l.take k ++ [en]) = (Rl.chain si st (l.take k) && Rl.sound en (Rl.next (Rl.lastI ⟨si, st, sc, sd⟩ (l.take k))) (Rl.lastT ⟨si, st, sc, sd⟩ (l.take k)))) := Lib.hid hcs
        clear hcs
        generalize Rl.lastI ⟨si, st, sc, sd⟩ (l.take k) = li at hli HNK HCS ⊢
        generalize Rl.lastT ⟨si, st, sc, sd⟩ (l.take k) = lt at hlt2 HNK HCS ⊢
        generalize w3.drewN q = w4 at hR4 ho4 hb4 ⊢
        have x0 : w4.cell? ⟨E, 0, none⟩ = some (.int .u64 en.term) := by rw [hb4.cell]; rfl
        have x1 : w4.cell? ⟨E, 1, none⟩ = some (.int .u64 en.index) := by rw [hb4.cell]; rfl
        have x2 : w4.cell? ⟨E, 2, none⟩ = some (.int .i64 en.kind) := by rw [hb4.cell]; rfl
        have x3 : w4.cell? ⟨E, 3, none⟩ = some (.string en.data) := by rw [hb4.cell]; rfl
        have hnx : IntKind.u64.wrap ((li : Int) + 1) = ((Rl.next li : Nat) : Int) := by rw [IntKind.wrap_u64]; unfold Rl.next; omega
        have hnl : Rl.next li < 18446744073709551616 := by unfold Rl.next; omega
        go_wp2_with fail
        refine (soundent_at w4 en hwf (Rl.next li) lt hnl hlt2).mono ?_
        rintro ee w5 ⟨rfl, ho5⟩
        have hR5 := hR4.keeps ho5 (fun h => h) (fun _ h => h.elim)
        have hO5 := ho4.trans ho5
        have hb5 := hb4.keeps ho5 (fun h => h)
        clear x0 x1 x2 x3 hR4 ho4 hb4 ho5 hnx
        cases hsd : Rl.sound en (Rl.next li) lt with
        | false =>
          have HN := Lib.hid (HNK.out _ hsd rfl)
          clear hsd HNK
          go_wp2_with fail
          go_ret2
          exact ⟨hO5, .inr ⟨HN.out, rfl⟩⟩
        | true =>
          rw [hsd, HC.out] at HCS
          have HC2 : RowKit.Hid (Rl.chain si st (l.take k ++ [en]) = true) := HCS
          clear hsd HNK HCS hnl hli hlt2
          obtain ⟨v, hg5, he5⟩ := hR5
          obtain ⟨ao', cap', rfl⟩ := he5.shape
          have hlk : (l.take k).length = k := by rw [List.length_take]; omega
          rw [hlk] at he5 hg5
          have hlk2 : (l.take k ++ [en]).length = k + 1 := by rw [List.length_append, hlk]; rfl
          have HLK2 := Lib.hid hlk2
          have HLK := Lib.hid hlk
          clear hlk hlk2 htl
          have x0 : w5.cell? ⟨E, 0, none⟩ = some (.int .u64 en.term) := by rw [hb5.cell]; rfl
          have x1 : w5.cell? ⟨E, 1, none⟩ = some (.int .u64 en.index) := by rw [hb5.cell]; rfl
          have x2 : w5.cell? ⟨E, 2, none⟩ = some (.int .i64 en.kind) := by rw [hb5.cell]; rfl
          have x3 : w5.cell? ⟨E, 3, none⟩ = some (.string en.data) := by rw [hb5.cell]; rfl
          have c4 := hg5.cell 4
          have f4 := hg5.free 4
          simp only [List.getElem?_toArray, List.getElem?_cons_succ, List.getElem?_cons_zero] at c4
          have hGl := hg5.lt
          have hap := he5.apart hg5 (by decide)
          have hz5 := hO5.size
          go_upto_region 10 with fail
          go_region_law (refine step_append_ent _ rfl _ _ rfl w.heap.size _ (l.take k) en hwf w5.heap.size 1 rfl (he5.keeps (((Only.refl NoBlock _).alloc _).drew) (fun _ _ h => h)) rfl ?_ ?_ ?_ ?_ ?_ ?_ ?_; (exact (ent_made w5 en _).1); (exact (ent_made w5 en _).2.1); (exact (ent_made w5 en _).2.2.1); (exact (ent_made w5 en _).2.2.2); (rw [HLK.out]; omega); (simp; omega); intro v2 w6 he6 hg6; have hp6 : Blk w6 (w.heap.size + 1) _ _ := (hg6.block _ (by simp; omega) (fun e => hap e.symm)).trans (hg5.alloc _); have c6 := hp6.cell 4; have f6 := hp6.free 4; simp only [List.getElem?_toArray, List.getElem?_cons_succ, List.getElem?_cons_zero] at c6; obtain ⟨ao6, cap6, rfl⟩ := he6.shape; rw [HLK2.out] at he6)
          all_goals
            have hR6 : RlogAt (w6.setCell ⟨w.heap.size + 1, 4, none⟩ (.slice ao6 (k + 1) cap6)) w.heap.size (w.heap.size + 1) ⟨si, st, sc, sd⟩ (l.take (k + 1)) := by
              rw [HTS.out]
              refine ⟨_, hp6.setCell 4 _, Ents.keeps (S := fun k => k = w.heap.size + 1) he6 ((Only.refl (fun k => k = w.heap.size + 1) w6).setCell (p := ⟨w.heap.size + 1, 4, none⟩) (fun _ => rfl) _) ?_⟩
              intro j hj e
              subst e
              exact he6.apart hp6 (by decide) hj
            have hO6 : Only NoBlock w (w6.setCell ⟨w.heap.size + 1, 4, none⟩ (.slice ao6 (k + 1) cap6)) := by
              refine (((hO5.alloc _).drew).grown hg6 ?_).setCell (p := ⟨w.heap.size + 1, 4, none⟩) (fun h => absurd h (by simp)) _
              intro j hj hjl
              have h3 := (World.ownsRow.lt he5.1 j hj).1
              omega
            generalize w6.setCell ⟨w.heap.size + 1, 4, none⟩ (.slice ao6 (k + 1) cap6) = w7 at hR6 hO6 ⊢
            have HC3 : RowKit.Hid (Rl.chain si st (l.take (k + 1)) = true) := Lib.hid (by rw [HTS.out]; exact HC2.out)
            clear hp6 he6 hg6 c6 f6 he5 hg5 hb5 x0 x1 x2 x3 c4 f4 hap HC HC2 HTS
            go_wp2_with fail
            go_roundw
            case rel => exact ⟨k + 1, by omega, by go_num, hR6, hO6, HC3⟩
            case measure => simp [intOf]; omega
      · obtain rfl : k = l.length := by omega
        rw [List.take_length] at hR HC
        have hnew : Rl.newOk ⟨si, st, sc, sd⟩ l = true := by unfold Rl.newOk; rw [Bool.and_eq_true]; exact ⟨HQ.out, HC.out⟩
        have HN := Lib.hid hnew
        clear hnew HC HQ
        go_wp2_with fail
        go_ret2
        exact ⟨ho, .inl ⟨HN.out, _, rfl, Nat.le_succ _, hR⟩⟩

end Go.Proofs.Ytekmjhenhgmpgaa
