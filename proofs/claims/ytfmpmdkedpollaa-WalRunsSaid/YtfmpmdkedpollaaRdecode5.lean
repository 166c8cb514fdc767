/- The document's taking back, frames and scanning: what they answer is what the plain lists say. -/
import Derived.Test.YtfmpmdkedpollaaRstuff
import Derived.BigRegion
import Derived.Test.YtfmpmdkedpollaaLib5
namespace Go.Proofs.Ytfmpmdkedpollaa
open Go.RowKit

namespace Stuff
theorem plP_byte : ∀ (k : Nat) (sep : Bool) (out b x : List Int), Wal.Byte out → Wal.Byte b → plP k sep out b = some x → Wal.Byte x
  | 0, _, _, _, _, _, _, h => by simp [plP] at h
  | k + 1, sep, out, [], x, ho, _, h => by simp [plP] at h; subst h; exact ho
  | k + 1, sep, out, n :: b, x, ho, hb, h => by
    have hb' : Wal.Byte b := fun c hc => hb c (by simp [hc])
    unfold plP at h
    split at h
    · cases h
    split at h
    · cases h
    refine plP_byte k _ _ _ x ?_ (hb'.drop _) h
    refine Wal.Byte.append ?_ (hb'.take _)
    split
    · exact ho.append (by intro c hc; simp at hc; omega)
    · exact ho
theorem pl_byte {b x : List Int} (hb : Wal.Byte b) (h : pl b = some x) : Wal.Byte x := by
  unfold pl at h
  split at h
  · cases h
  · exact plP_byte _ _ [] b x (by intro c hc; cases hc) hb h
end Stuff
theorem Bts.caps {w : World} {base : Nat} {ao : Option Addr} {cap : Nat} {l : List Int} (h : Bts w base (.slice ao l.length cap) l) : l.length ≤ cap ∧ cap ≤ maxLen := by
  rcases h.2 with ⟨h1, h0⟩ | ⟨g, cap', cur, h1, hb, hg, hn, hm, _, ht⟩
  · simp only [Value.slice.injEq] at h1
    exact ⟨by omega, by rw [h1.2.2]; unfold maxLen; omega⟩
  · simp only [Value.slice.injEq] at h1
    obtain ⟨rfl, _, rfl⟩ := h1
    exact ⟨hn, hm⟩
theorem rzero_as (w : World) (ao : Option Addr) (cap n : Nat) (l : List Int) (hl : BytesIn w ao l) (hn : l.length = n) :
    Calls Try.prog 53 #[.slice ao n cap] w fun e w' => e = .returned (.int .i64 (Stuff.zero l : Nat)) ∧ w = w' := by
  subst hn
  exact rzero_at w ao cap l hl

set_option maxRecDepth 100000 in
set_option maxHeartbeats 2000000 in
theorem rplain_at (w : World) (ao : Option Addr) (cap : Nat) (l : List Int) (hl : BytesIn w ao l) (hcap : l.length ≤ cap) (hcm : cap ≤ maxLen) (hlen : l.length ≤ 70000000000000) :
    Calls Try.prog 54 #[.slice ao l.length cap] w fun e w' => ∃ v, e = .returned (.tuple #[v, .bool (Stuff.pl l).isSome]) ∧ Bts w' w.heap.size v ((Stuff.pl l).getD []) ∧ Only NoBlock w w' ∧ ((Stuff.pl l).getD []).length ≤ 70000000000000 := by
  unfold maxLen at hcm
  by_cases hn : l = []
  · subst hn
    have HN : RowKit.Hid (Stuff.pl [] = none) := Lib.hid rfl
    go_enter Try.func54, Try.ntmps54
    go_wp2_with fail
    go_loopw [0, 4, 5, 6] (fun v0 v4 v5 v6 wr => v0 = .slice ao 0 cap ∧ v4 = .slice none 0 0 ∧ v5 = .bool true ∧ v6 = .bool true ∧ wr = w) (fun _ _ _ _ _ => 0)
    case atStart => exact ⟨rfl, rfl, rfl, rfl, rfl⟩
    case round =>
      obtain ⟨rfl, rfl, rfl, rfl, rfl⟩ := hrel
      go_wp2_with fail
      go_ret2
      exact ⟨_, by rw [HN.out]; rfl, by rw [HN.out]; exact Bts.nil _ _, Only.refl _ _, by rw [HN.out]; exact Nat.zero_le _⟩
  · have HPL : RowKit.Hid (Stuff.pl l = Stuff.plP (l.length + 1) (!true && !true) [] l) := Lib.hid (by unfold Stuff.pl; rw [if_neg hn]; rfl)
    go_enter Try.func54, Try.ntmps54
    go_wp2_with fail
    go_loopw [0, 4, 5, 6] (fun v0 v4 v5 v6 wr => ∃ (ao' : Option Addr) (cap' kf : Nat) (r out : List Int) (full first : Bool), v0 = .slice ao' r.length cap' ∧ v5 = .bool full ∧ v6 = .bool first ∧ BytesIn w ao' r ∧ r.length ≤ cap' ∧ cap' ≤ 2 ^ 63 - 1 ∧ Bts wr w.heap.size v4 out ∧ Only NoBlock w wr ∧
        r.length + out.length ≤ 70000000000000 ∧ r.length < kf ∧ RowKit.Hid (first = true → r ≠ []) ∧ RowKit.Hid (Stuff.pl l = Stuff.plP kf (!first && !full) out r)) (fun v0 _ _ _ _ => match v0 with | .slice _ n _ => n | _ => 0)
    case atStart => exact ⟨ao, cap, l.length + 1, l, [], true, true, rfl, rfl, rfl, hl, hcap, hcm, Bts.nil _ _, Only.refl _ _, by simpa using hlen, by omega, Lib.hid (fun _ => hn), HPL⟩
    case round =>
      clear HPL
      obtain ⟨ao', cap', kf, r, out, full, first, rfl, rfl, rfl, hb, hrc, hcm', hout, ho, hrl, hkf, HF, HD⟩ := hrel
      have hz := ho.size
      obtain ⟨kf, rfl⟩ : ∃ m, kf = m + 1 := ⟨kf - 1, by omega⟩
      cases r with
      | nil =>
        cases first with
        | true => exact absurd rfl (HF.out rfl)
        | false =>
          have hsome : Stuff.pl l = some out := by rw [HD.out]; rfl
          have HN := Lib.hid hsome
          clear hsome HD
          go_wp2_with fail
          go_ret2
          exact ⟨_, by rw [HN.out]; rfl, by rw [HN.out]; exact hout, ho, by rw [HN.out]; exact (by omega : out.length ≤ 70000000000000)⟩
      | cons n t =>
        obtain ⟨b, off, rfl, hcell, hn0, hn1⟩ := (hb.keeps ho (fun _ _ h => h)).at (k := 0) (by simp)
        rw [List.getD_cons_zero] at hcell hn0 hn1
        rw [Nat.add_zero] at hcell
        rw [List.length_cons] at hrc hrl hkf ⊢
        have hne : ∀ a : Prop, a → RowKit.Hid a := fun _ h => Lib.hid h
        clear HF
        by_cases hbad : n ≤ 0 ∨ (t.length : Int) + 1 < n
        · have hnone : Stuff.pl l = none := by rw [HD.out, Stuff.plP, if_pos hbad]
          have HN := Lib.hid hnone
          clear hnone HD
          by_cases hz0 : n = 0
          · subst hz0
            go_wp2_with fail
            go_ret2
            refine ⟨_, by rw [HN.out]; rfl, by rw [HN.out]; exact Bts.nil _ _, ho, by rw [HN.out]; exact Nat.zero_le _⟩
          · have hz1 : (n == 0) = false := by simpa using hz0
            have hz2 : (t.length : Int) + 1 < n := by omega
            clear hz0 hbad
            go_wp2_with fail
            go_ret2
            refine ⟨_, by rw [HN.out]; rfl, by rw [HN.out]; exact Bts.nil _ _, ho, by rw [HN.out]; exact Nat.zero_le _⟩
        · have hnz : (n == 0) = false := by simp; omega
          obtain ⟨m, rfl⟩ : ∃ m : Nat, n = (m : Int) + 1 := ⟨(n - 1).toNat, by omega⟩
          have hmt : m ≤ t.length := by omega
          have hstep : Stuff.pl l = if Stuff.zero (t.take m) < m then none else Stuff.plP kf (decide ((m : Int) + 1 ≠ 255)) ((if (!first && !full) then out ++ [0] else out) ++ t.take m) (t.drop m) := by
            rw [HD.out, Stuff.plP, if_neg hbad]
            have e : ((m : Int) + 1).toNat - 1 = m := by omega
            rw [e]
          have HS := Lib.hid hstep
          clear hstep HD hbad
          have hdc : decide ((t.length : Int) + 1 < (m : Int) + 1) = false := by simp; omega
          have htl : (t.take m).length = m := by rw [List.length_take]; omega
          have hzl := Stuff.zero_le (t.take m)
          rw [htl] at hzl
          have HTL := Lib.hid htl
          clear htl
          have hbd := hb.drop 1
          rw [List.drop_succ_cons, List.drop_zero] at hbd
          have hb2 : ∀ w', Only NoBlock w w' → BytesIn w' (some ⟨b, off + 1, none⟩) (t.take m) := fun w' h => (hbd.keeps h (fun _ _ h => h)).take m
          have hbC := hb.drop (m + 1)
          rw [List.drop_succ_cons] at hbC
          have hbA : cap' = 1 ∨ cap' = m + 1 → BytesIn w (some ⟨b, off, none⟩) (t.drop m) := by
            intro e
            rw [List.drop_eq_nil_iff.2 (by omega)]
            exact BytesIn.nil _ _
          have hbI : BytesIn w (if cap' = m + 1 then some ⟨b, off, none⟩ else some ⟨b, off + (m + 1), none⟩) (t.drop m) := by
            split
            · exact hbA (.inr (by assumption))
            · exact hbC
          have hb1 : cap' = 1 → ∀ w', BytesIn w' (some ⟨b, off, none⟩) (t.take m) := by
            intro e w'
            have : t = [] := List.length_eq_zero_iff.1 (by omega)
            subst this
            rw [List.take_nil]
            exact BytesIn.nil _ _
          go_wp2_with fail
          all_goals
            refine (rzero_as wr _ _ m (t.take m) ?_ HTL.out).mono ?_
            · first
              | exact hb2 _ ho
              | exact hb1 (by assumption) _
            rintro e w1 ⟨rfl, rfl⟩
            by_cases hlt : Stuff.zero (t.take m) < m
            · have hnone : Stuff.pl l = none := by rw [HS.out, if_pos hlt]
              have HN := Lib.hid hnone
              clear hnone HS
              go_wp2_with fail
              go_ret2
              refine ⟨_, by rw [HN.out]; rfl, by rw [HN.out]; exact Bts.nil _ _, ho, by rw [HN.out]; exact Nat.zero_le _⟩
            · have hrest : Stuff.pl l = Stuff.plP kf (decide ((m : Int) + 1 ≠ 255)) ((if (!first && !full) then out ++ [0] else out) ++ t.take m) (t.drop m) := by rw [HS.out, if_neg hlt]
              have HR := Lib.hid hrest
              clear hrest HS
              have hzm : Stuff.zero (t.take m) = m := by omega
              rw [hzm]
              have hmm : decide ((m : Int) < (m : Int)) = false := by simp
              clear hzm hzl hlt
              have go1 : ∀ (out' : List Int), True := fun _ => trivial
              go_upto_region 8 with fail
              cases first <;> cases full
              · clear go1
                replace HR : RowKit.Hid (Stuff.pl l = Stuff.plP kf (decide ((m : Int) + 1 ≠ 255)) ((out ++ [0]) ++ t.take m) (t.drop m)) := HR
                go_upto_region 10 with (first
                  | (at_builtin; refine wpList_append_byte _ rfl _ _ rfl w.heap.size _ out 0 ⟨wr.heap.size, 0, none⟩ 1 rfl (hout.keeps ((Only.refl NoBlock _).alloc _) (fun _ _ h => h)) rfl ?_ ?_ ?_ ?_; (exact cell_byte _ _ _ _ rfl); omega; (simp; omega); intro v' w2 hb2' hg2; have ho2 := (ho.alloc _).appended (hout.keeps ((Only.refl NoBlock _).alloc _) (fun _ _ h => h)) (Nat.le_refl _) hg2))
                go_upto_region 11 with (first
                  | (at_builtin; refine wpList_append_bts _ rfl _ _ rfl w.heap.size _ (out ++ [0]) (t.take m) _ _ _ rfl hb2' rfl ?_ ?_ ?_ ?_ ?_; (rw [HTL.out]); (first | exact hb2 _ ho2 | exact hb1 (by assumption) _); (rw [HTL.out]; (try simp); omega); (have := ho2.size; omega); intro v' w3 hb3 hg3; have ho3 := ho2.appended hb2' (Nat.le_refl _) hg3))
                have hfl : RowKit.Hid ((!false && !((m : Int) + 1 == 255)) = decide ((m : Int) + 1 ≠ 255)) := Lib.hid (by by_cases h : (m : Int) + 1 = 255 <;> simp [h])
                have hdl : (t.drop m).length = t.length - m := List.length_drop
                go_wp2_with fail
                all_goals first
                | exact ⟨⟨some ⟨b, off, none⟩, 0, kf, t.drop m, (out ++ [0]) ++ t.take m, ((m : Int) + 1 == 255), false, by rw [hdl], rfl, rfl, hbA (by first | (left; assumption) | (right; omega)), by omega, by omega, hb3, ho3, by rw [List.length_append, HTL.out, hdl]; (try simp); omega, by omega, Lib.hid (by intro h; cases h), by rw [hfl.out]; exact HR⟩, by simp; omega⟩
                | exact ⟨⟨if cap' = m + 1 then some ⟨b, off, none⟩ else some ⟨b, off + (m + 1), none⟩, cap' - (m + 1), kf, t.drop m, (out ++ [0]) ++ t.take m, ((m : Int) + 1 == 255), false, by rw [hdl], rfl, rfl, hbI, by omega, by omega, hb3, ho3, by rw [List.length_append, HTL.out, hdl]; (try simp); omega, by omega, Lib.hid (by intro h; cases h), by rw [hfl.out]; exact HR⟩, by simp; omega⟩
              · clear go1
                replace HR : RowKit.Hid (Stuff.pl l = Stuff.plP kf (decide ((m : Int) + 1 ≠ 255)) (out ++ t.take m) (t.drop m)) := HR
                go_upto_region 11 with (first
                  | (at_builtin; refine wpList_append_bts _ rfl _ _ rfl w.heap.size _ out (t.take m) _ _ _ rfl hout rfl ?_ ?_ ?_ ?_ ?_; (rw [HTL.out]); (first | exact hb2 _ ho | exact hb1 (by assumption) _); (rw [HTL.out]; (try simp); omega); (have := ho.size; omega); intro v' w3 hb3 hg3; have ho3 := ho.appended hout (Nat.le_refl _) hg3))
                have hfl : RowKit.Hid ((!false && !((m : Int) + 1 == 255)) = decide ((m : Int) + 1 ≠ 255)) := Lib.hid (by by_cases h : (m : Int) + 1 = 255 <;> simp [h])
                have hdl : (t.drop m).length = t.length - m := List.length_drop
                go_wp2_with fail
                all_goals first
                | exact ⟨⟨some ⟨b, off, none⟩, 0, kf, t.drop m, out ++ t.take m, ((m : Int) + 1 == 255), false, by rw [hdl], rfl, rfl, hbA (by first | (left; assumption) | (right; omega)), by omega, by omega, hb3, ho3, by rw [List.length_append, HTL.out, hdl]; (try simp); omega, by omega, Lib.hid (by intro h; cases h), by rw [hfl.out]; exact HR⟩, by simp; omega⟩
                | exact ⟨⟨if cap' = m + 1 then some ⟨b, off, none⟩ else some ⟨b, off + (m + 1), none⟩, cap' - (m + 1), kf, t.drop m, out ++ t.take m, ((m : Int) + 1 == 255), false, by rw [hdl], rfl, rfl, hbI, by omega, by omega, hb3, ho3, by rw [List.length_append, HTL.out, hdl]; (try simp); omega, by omega, Lib.hid (by intro h; cases h), by rw [hfl.out]; exact HR⟩, by simp; omega⟩
              · clear go1
                replace HR : RowKit.Hid (Stuff.pl l = Stuff.plP kf (decide ((m : Int) + 1 ≠ 255)) (out ++ t.take m) (t.drop m)) := HR
                go_upto_region 11 with (first
                  | (at_builtin; refine wpList_append_bts _ rfl _ _ rfl w.heap.size _ out (t.take m) _ _ _ rfl hout rfl ?_ ?_ ?_ ?_ ?_; (rw [HTL.out]); (first | exact hb2 _ ho | exact hb1 (by assumption) _); (rw [HTL.out]; (try simp); omega); (have := ho.size; omega); intro v' w3 hb3 hg3; have ho3 := ho.appended hout (Nat.le_refl _) hg3))
                have hfl : RowKit.Hid ((!false && !((m : Int) + 1 == 255)) = decide ((m : Int) + 1 ≠ 255)) := Lib.hid (by by_cases h : (m : Int) + 1 = 255 <;> simp [h])
                have hdl : (t.drop m).length = t.length - m := List.length_drop
                go_wp2_with fail
                all_goals first
                | exact ⟨⟨some ⟨b, off, none⟩, 0, kf, t.drop m, out ++ t.take m, ((m : Int) + 1 == 255), false, by rw [hdl], rfl, rfl, hbA (by first | (left; assumption) | (right; omega)), by omega, by omega, hb3, ho3, by rw [List.length_append, HTL.out, hdl]; (try simp); omega, by omega, Lib.hid (by intro h; cases h), by rw [hfl.out]; exact HR⟩, by simp; omega⟩
                | exact ⟨⟨if cap' = m + 1 then some ⟨b, off, none⟩ else some ⟨b, off + (m + 1), none⟩, cap' - (m + 1), kf, t.drop m, out ++ t.take m, ((m : Int) + 1 == 255), false, by rw [hdl], rfl, rfl, hbI, by omega, by omega, hb3, ho3, by rw [List.length_append, HTL.out, hdl]; (try simp); omega, by omega, Lib.hid (by intro h; cases h), by rw [hfl.out]; exact HR⟩, by simp; omega⟩
              · clear go1
                replace HR : RowKit.Hid (Stuff.pl l = Stuff.plP kf (decide ((m : Int) + 1 ≠ 255)) (out ++ t.take m) (t.drop m)) := HR
                go_upto_region 11 with (first
                  | (at_builtin; refine wpList_append_bts _ rfl _ _ rfl w.heap.size _ out (t.take m) _ _ _ rfl hout rfl ?_ ?_ ?_ ?_ ?_; (rw [HTL.out]); (first | exact hb2 _ ho | exact hb1 (by assumption) _); (rw [HTL.out]; (try simp); omega); (have := ho.size; omega); intro v' w3 hb3 hg3; have ho3 := ho.appended hout (Nat.le_refl _) hg3))
                have hfl : RowKit.Hid ((!false && !((m : Int) + 1 == 255)) = decide ((m : Int) + 1 ≠ 255)) := Lib.hid (by by_cases h : (m : Int) + 1 = 255 <;> simp [h])
                have hdl : (t.drop m).length = t.length - m := List.length_drop
                go_wp2_with fail
                all_goals first
                | exact ⟨⟨some ⟨b, off, none⟩, 0, kf, t.drop m, out ++ t.take m, ((m : Int) + 1 == 255), false, by rw [hdl], rfl, rfl, hbA (by first | (left; assumption) | (right; omega)), by omega, by omega, hb3, ho3, by rw [List.length_append, HTL.out, hdl]; (try simp); omega, by omega, Lib.hid (by intro h; cases h), by rw [hfl.out]; exact HR⟩, by simp; omega⟩
                | exact ⟨⟨if cap' = m + 1 then some ⟨b, off, none⟩ else some ⟨b, off + (m + 1), none⟩, cap' - (m + 1), kf, t.drop m, out ++ t.take m, ((m : Int) + 1 == 255), false, by rw [hdl], rfl, rfl, hbI, by omega, by omega, hb3, ho3, by rw [List.length_append, HTL.out, hdl]; (try simp); omega, by omega, Lib.hid (by intro h; cases h), by rw [hfl.out]; exact HR⟩, by simp; omega⟩

/-- a row of bytes as a text, in any world that has it -/
theorem conv_run {w : World} {ao : Option Addr} {cap : Nat} {l : List Int} (hb : BytesIn w ao l) : (convert 46 9 (.slice ao l.length cap)).run Try.prog w = .ok (.string (textOf l)) w := by
  cases l with
  | nil =>
    rw [show ([] : List Int).length = 0 from rfl, run_convert_bytes_string w 46 9 5 ao 0 cap By.u_bytes Cv.u_byte Cv.u_string]
    cases ao with
    | none => rfl
    | some a =>
      have hl := run_loadCells_list (P := Try.prog) w a ([] : List Value) (fun j v hj => by cases hj)
      exact run_bytesToString w a 0 cap [] hl
  | cons c r =>
    obtain ⟨b, off, rfl, _⟩ := hb.cell 0 (by simp)
    have := run_convert_bytes_back (P := Try.prog) w 46 9 5 ⟨b, off, none⟩ cap ((c :: r).map (fun x => UInt8.ofNat x.toNat)) By.u_bytes Cv.u_byte Cv.u_string (by
      intro j hj
      have hj' : j < (c :: r).length := by simpa using hj
      obtain ⟨b', off', e, hc⟩ := hb.cell j hj'
      cases e
      have hw := hb.wf _ (List.getElem_mem hj')
      rw [Addr.add_lit, hc, List.getElem_map, List.getD_eq_getElem?_getD, List.getElem?_eq_getElem hj']
      congr 2
      simp only [Option.getD_some]
      rw [UInt8.toNat_ofNat']
      omega)
    rw [List.length_map] at this
    exact this

set_option maxRecDepth 100000 in
set_option maxHeartbeats 2000000 in
theorem rdecode_at (w : World) (ao : Option Addr) (cap : Nat) (l : List Int) (hl : BytesIn w ao l) (hcap : l.length ≤ cap) (hcm : cap ≤ maxLen) (hlen : l.length ≤ 35000000000000) :
    Calls Try.prog 51 #[.slice ao l.length cap] w fun e w' => ∃ v, e = .returned (.tuple #[v, .int .i64 (decE (Stuff.dec l))]) ∧ Bts w' w.heap.size v (decL (Stuff.dec l)) ∧ Only NoBlock w w' := by
  have hdp := Stuff.dec_pl (b := l) (fun c hc => (hl.wf c hc).2)
  have HDP := Lib.hid hdp
  clear hdp
  go_enter Try.func51, Try.ntmps51
  go_wp2_with fail
  refine (rplain_at w ao cap l hl hcap hcm (by omega)).mono ?_
  rintro e w1 ⟨v, rfl, hb1, ho1, hxl⟩
  cases hp : Stuff.pl l with
  | none =>
    rw [hp] at HDP hb1
    have hnone : Stuff.dec l = none := HDP.out
    have HN := Lib.hid hnone
    clear hnone HDP hp
    rw [show (none : Option (List Int)).isSome = false from rfl]
    go_wp2_with fail
    go_quiet (fail)
    go_wp2_with fail
    go_ret2
    exact ⟨_, by rw [HN.out]; rfl, by rw [HN.out]; exact Bts.nil _ _, ho1.drewN _⟩
  | some x =>
    rw [hp] at HDP hb1
    replace hb1 : Bts w1 w.heap.size v x := hb1
    rw [show (some x).isSome = true from rfl]
    rw [hp] at hxl
    replace hxl : x.length ≤ 70000000000000 := hxl
    have hxw := Stuff.pl_byte (fun c hc => hl.wf c hc) hp
    clear hp
    obtain ⟨ao1, cap1, rfl⟩ := Bts.shape' hb1
    have hbx : BytesIn w1 ao1 x := hb1.read hxw
    have hxc := Bts.caps hb1
    have hcv : ∀ w' : World, ((Only NoBlock w w' ∧ Only NoBlock w1 w') ∧ BytesIn w' ao1 x) → (convert 46 9 (.slice ao l.length cap)).run Try.prog w' = .ok (.string (textOf l)) w' := fun w' h => conv_run (hl.keeps h.1.1 (fun _ _ h => h))
    have henc : ∀ W, ((Only NoBlock w W ∧ Only NoBlock w1 W) ∧ BytesIn W ao1 x) → Calls Try.prog 39 #[.slice ao1 x.length cap1] W fun e w' => ∃ ao2 cap2, e = .returned (.slice ao2 (Stuff.enc x).length cap2) ∧ ((Only NoBlock w w' ∧ Only NoBlock w1 w') ∧ BytesIn w' ao1 x) ∧ (convert 46 9 (.slice ao2 (Stuff.enc x).length cap2)).run Try.prog w' = .ok (.string (textOf (Stuff.enc x))) w' := by
      intro W hW
      refine (rencode_at W ao1 cap1 x hW.2 hxc.1 hxc.2 hxl).mono ?_
      rintro e w2 ⟨v2, rfl, hb2, ho2⟩
      obtain ⟨ao2, cap2, rfl⟩ := Bts.shape' hb2
      exact ⟨ao2, cap2, rfl, ⟨⟨hW.1.1.trans ho2, hW.1.2.trans ho2⟩, hW.2.keeps ho2 (fun _ _ h => h)⟩, conv_run (hb2.read (Stuff.enc_byte hxw))⟩
    go_upto_region 2 with fail
    have hS1 : (Only NoBlock w w1.drew ∧ Only NoBlock w1 w1.drew) ∧ BytesIn w1.drew ao1 x := ⟨⟨ho1.drew, (Only.refl NoBlock _).drew⟩, hbx.keeps ((Only.refl NoBlock _).drew) (fun _ _ h => h)⟩
    go_region_with (first
        | (go_at_call 39; refine (henc _ (by assumption)).mono ?_; rintro e w2 ⟨ao2, cap2, rfl, hS2, hcv2⟩))
    all_goals
      have hO2 := hS2.1.1
      have hO12 := hS2.1.2
      have hb2 := (hl.keeps hO2 (fun _ _ h => h))
      clear hcv henc hcv2
      by_cases he : Stuff.enc x = l
      · have hsome : Stuff.dec l = some x := by rw [HDP.out, if_pos he]
        have HN := Lib.hid hsome
        rw [he]
        clear hsome HDP he
        have hnb : (!(textOf l).toList == (textOf l).toList) = false := by simp
        rw [hnb]
        go_wp2_with fail
        go_ret2
        exact ⟨_, by rw [HN.out]; rfl, by rw [HN.out]; exact hb1.keeps hO12 (fun _ _ h => h), hO2⟩
      · have hnone : Stuff.dec l = none := by rw [HDP.out, if_neg he]
        have HN := Lib.hid hnone
        have hne : textOf (Stuff.enc x) ≠ textOf l := by
          intro e
          have := congrArg nums e
          rw [nums_textOf (Stuff.enc_byte hxw), nums_textOf (fun c hc => hl.wf c hc)] at this
          exact he this
        have hnb := ba_ne hne
        clear hnone HDP he hne
        rw [hnb]
        go_wp2_with fail
        go_ret2
        exact ⟨_, by rw [HN.out]; rfl, by rw [HN.out]; exact Bts.nil _ _, hO2⟩

end Go.Proofs.Ytfmpmdkedpollaa
