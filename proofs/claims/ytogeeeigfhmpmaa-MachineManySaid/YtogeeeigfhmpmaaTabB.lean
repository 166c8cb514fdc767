/- session.Table's Begin, End. -/
import Derived.Test.YtogeeeigfhmpmaaTab
import Derived.Test.YtogeeeigfhmpmaaSagaF
import Derived.Deep.RegionHeld3
namespace Go.Proofs.Ytogeeeigfhmpmaa
open Go.RowKit
set_option maxRecDepth 100000

theorem findV_some {t : Mc.Tab} {id i : Nat} (h : Mc.find t.rows id = some i) : findV t id = (i : Int) ∧ i < t.rows.length := by
  obtain ⟨hi, _⟩ := Mc.find_lt h
  exact ⟨by unfold findV; rw [h], hi⟩
theorem findV_none {t : Mc.Tab} {id : Nat} (h : Mc.find t.rows id = none) : findV t id = -1 := by unfold findV; rw [h]
theorem modify_set {f : Mc.Ses → Mc.Ses} {l : List Mc.Ses} {i : Nat} (hi : i < l.length) : l.modify i f = l.set i (f l[i]) := by
  refine List.ext_getElem (by simp) (fun j h1 h2 => ?_)
  rw [List.getElem_modify, List.getElem_set]
  by_cases e : i = j
  · subst e; simp
  · simp [e]
theorem start_none {t : Mc.Tab} {id seq : Nat} (h : Mc.find t.rows id = none) : t.start id seq = (t, ⟨40, 0, 0⟩, false) := by unfold Mc.Tab.start; rw [h]
theorem start_some {t : Mc.Tab} {id seq i : Nat} (h : Mc.find t.rows id = some i) {x : Mc.Ses} (hx : t.rows.getD i ⟨0, 0, 0, ⟨0, 0, 0⟩⟩ = x) (hi : i < t.rows.length) : t.start id seq =
    if seq = x.seq ∧ 0 < seq then (⟨t.now, t.next, t.rows.set i ⟨x.id, t.now, x.seq, x.rep⟩⟩, x.rep, false) else if seq ≠ x.seq + 1 ∨ seq = 0 then (⟨t.now, t.next, t.rows.set i ⟨x.id, t.now, x.seq, x.rep⟩⟩, ⟨41, 0, 0⟩, false) else (⟨t.now, t.next, t.rows.set i ⟨x.id, t.now, x.seq, x.rep⟩⟩, ⟨0, 0, 0⟩, true) := by
  unfold Mc.Tab.start
  rw [h]
  have e : Mc.used t.rows i t.now = t.rows.set i ⟨x.id, t.now, x.seq, x.rep⟩ := by
    unfold Mc.used
    rw [modify_set hi]
    rw [List.getD_eq_getElem?_getD, List.getElem?_eq_getElem hi, Option.getD_some] at hx
    rw [hx]
  simp only [hx, e]
theorem end_none {t : Mc.Tab} {id seq : Nat} {y : Mc.Rep} (h : Mc.find t.rows id = none) : t.end_ id seq y = t := by unfold Mc.Tab.end_; rw [h]
theorem end_some {t : Mc.Tab} {id seq i : Nat} {y : Mc.Rep} (h : Mc.find t.rows id = some i) {x : Mc.Ses} (hx : t.rows.getD i ⟨0, 0, 0, ⟨0, 0, 0⟩⟩ = x) (hi : i < t.rows.length) : t.end_ id seq y = ⟨t.now, t.next, t.rows.set i ⟨x.id, x.used, seq, y⟩⟩ := by
  unfold Mc.Tab.end_
  rw [h]
  simp only
  rw [modify_set hi]
  rw [List.getD_eq_getElem?_getD, List.getElem?_eq_getElem hi, Option.getD_some] at hx
  rw [hx]

set_option maxHeartbeats 4000000 in
theorem start_at (w : World) (tb : Nat) (v : Value) (t : Mc.Tab) (h : TabAt w tb v t) (hk : t.Ok) (id seq : Nat) (hsq : seq < 18446744073709551616) :
    Calls Try.prog 30 #[.pointer (some ⟨tb, 0, none⟩), .int .u64 id, .int .u64 seq] w fun e w' => e = .returned (.tuple #[repV (t.start id seq).2.1, .bool (t.start id seq).2.2]) ∧ ∃ v', TabTo tb v (t.start id seq).1 w w' v' := by
  obtain ⟨fs, hfs⟩ := u_rep
  have HFS := Lib.hid hfs
  clear hfs
  have htl := h.blk.lt
  have hlen := hk.len
  go_enter Try.func30, Try.ntmps30
  go_upto_region 1 with fail
  have hG := Blk.made w #[.int .i64 0, .int .u64 0, .int .u64 0] 34
  have hO := (Only.refl NoBlock w).alloc (Obj.cells #[.int .i64 0, .int .u64 0, .int .u64 0] 34)
  have hT := h.keepsN hO
  generalize w.alloc (Obj.cells #[.int .i64 0, .int .u64 0, .int .u64 0] 34) = w1 at hG hO hT ⊢
  have hG0 : w.heap.size ≤ w.heap.size := Nat.le_refl _
  have hvG : ∀ k, v.ownBlock = some k → k ≠ w.heap.size := fun k hk e => by have := (h.row.ofT hk).lt; omega
  have htG : tb ≠ w.heap.size := by omega
  generalize hGe : w.heap.size = G at hG hvG htG ⊢
  have hG0 : w.heap.size ≤ G := by omega
  clear hGe h htl
  go_wp2_with fail
  refine (sfind_at w1 tb v t hT hlen id).mono ?_
  rintro e w2 ⟨rfl, hO2⟩
  have hT2 := hT.keepsN hO2
  have hG2 := hG.keeps hO2 (fun h => h)
  have hO2' := hO.trans hO2
  clear hT hG hO hO2
  have g0 := hG2.cell 0
  have g1 := hG2.cell 1
  have g2 := hG2.cell 2
  have u0 := hG2.free 0
  have u1 := hG2.free 1
  have u2 := hG2.free 2
  simp only [List.getElem?_toArray, List.getElem?_cons_succ, List.getElem?_cons_zero] at g0 g1 g2
  cases hf : Mc.find t.rows id with
  | none =>
    rw [findV_none hf]
    have HR := Lib.hid (start_none (seq := seq) hf)
    clear hf
    go_wp2_with fail
    have hV := sets_blk hG2 [.int .i64 40, .int .u64 0, .int .u64 0] rfl
    have hW := sets_only (g := G) hO2' (fun h => by omega) [.int .i64 40, .int .u64 0, .int .u64 0] 0
    have hW2 := sets_only (S := fun k => k = G) (g := G) (Only.refl _ w2) (fun _ => rfl) [.int .i64 40, .int .u64 0, .int .u64 0] 0
    simp only [sets] at hV hW hW2
    refine bodyPost_ret (results_cell_tmp (P := Try.prog) rfl _ _ G _ _ _ _ rfl hV HFS.out rfl size_rep) rfl ?_
    exact ⟨by rw [HR.out]; rfl, v, by rw [HR.out]; exact ⟨hT2.keeps hW2 htG hvG, fun k hk => .inl hk, hW.of_no⟩⟩
  | some i =>
    obtain ⟨he, hi⟩ := findV_some hf
    rw [he]
    obtain ⟨⟨xi, xu, xs, ⟨ye, yn, yx⟩⟩, hx⟩ : ∃ x, t.rows.getD i ⟨0, 0, 0, ⟨0, 0, 0⟩⟩ = x := ⟨_, rfl⟩
    have HR := Lib.hid (start_some (seq := seq) hf hx hi)
    have hxs : xs < 18446744073709551616 := by
      rw [List.getD_eq_getElem?_getD, List.getElem?_eq_getElem hi, Option.getD_some] at hx
      have := (hk.rows _ (List.getElem_mem hi)).seq
      rw [hx] at this
      exact this
    obtain ⟨tnow, next, l⟩ := t
    simp only at hi HR hx hlen
    clear he hf hk
    obtain ⟨hB, hrow⟩ := hT2
    simp only at hB hrow
    obtain ⟨g, cap, rfl, _, hlc, hcm, hgl⟩ := hrow.shapeG (by omega)
    have hgG : g ≠ G := hvG g rfl
    have htg : g ≠ tb := (hrow.ofT rfl).ne_blk hB (by decide)
    have hcell := fun j (hj : j < 6) => hrow.cell rfl hi (j := j) hj
    rw [show l.getD i sesK.zero = ⟨xi, xu, xs, ⟨ye, yn, yx⟩⟩ from hx] at hcell
    have e1 := hcell 1 (by decide)
    simp only [sesK, List.getElem?_cons_succ, List.getElem?_cons_zero] at e1
    have q1 := hrow.free rfl (i * 6 + 1)
    have c0 := hB.cell 0
    have c2 := hB.cell 2
    simp only [List.getElem?_toArray, List.getElem?_cons_succ, List.getElem?_cons_zero] at c0 c2
    have hil : decide (i < l.length) = true := by simpa using hi
    have hi0 : ¬ ((i : Int) < 0) := by omega
    have hrw := hrow.write rfl hi (j := 1) (by decide) ⟨xi, tnow, xs, ⟨ye, yn, yx⟩⟩ (.int .u64 (tnow : Int)) (by rw [show l.getD i sesK.zero = ⟨xi, xu, xs, ⟨ye, yn, yx⟩⟩ from hx]; rfl)
    have HX := Lib.hid hx
    clear hx hcell
    go_upto_region 6 with fail
    have hS := (Only.refl (fun k => k = g) w2).setCell (p := ⟨g, i * 6 + 1, none⟩) (fun _ => rfl) (.int .u64 (tnow : Int))
    have hB3 := hB.keeps hS (fun e => htg e.symm)
    have hG3 := hG2.keeps hS (fun e => hgG e.symm)
    have hO3 := hO2'.of_no.trans (hS.mono (T := fun k => k = tb ∨ (Value.slice (some ⟨g, 0, none⟩) l.length cap).ownBlock = some k) (fun k hk => .inr (by rw [hk]; rfl)))
    have hrow3 : RowAt sesK 58 (w2.setCell ⟨g, i * 6 + 1, none⟩ (.int .u64 (tnow : Int))) 0 (.slice (some ⟨g, 0, none⟩) l.length cap) (l.set i ⟨xi, tnow, xs, ⟨ye, yn, yx⟩⟩) := hrw
    generalize w2.setCell ⟨g, i * 6 + 1, none⟩ (.int .u64 (tnow : Int)) = w3 at hB3 hG3 hO3 hrow3 ⊢
    clear hB hG2 hO2' hrow hrw hS e1 q1 c0 c2 g0 g1 g2 u0 u1 u2
    have hi3 : i < (l.set i (⟨xi, tnow, xs, ⟨ye, yn, yx⟩⟩ : Mc.Ses)).length := by rw [List.length_set]; exact hi
    have hgs : (l.set i (⟨xi, tnow, xs, ⟨ye, yn, yx⟩⟩ : Mc.Ses)).getD i sesK.zero = ⟨xi, tnow, xs, ⟨ye, yn, yx⟩⟩ := by rw [List.getD_eq_getElem?_getD, List.getElem?_eq_getElem hi3, List.getElem_set_self]; rfl
    have hls : (l.set i (⟨xi, tnow, xs, ⟨ye, yn, yx⟩⟩ : Mc.Ses)).length = l.length := List.length_set
    have hcell := fun j (hj : j < 6) => hrow3.cell hls.symm hi3 (j := j) hj
    rw [hgs] at hcell
    have e2 := hcell 2 (by decide)
    have e3 := hcell 3 (by decide)
    have e4 := hcell 4 (by decide)
    have e5 := hcell 5 (by decide)
    simp only [sesK, List.getElem?_cons_succ, List.getElem?_cons_zero] at e2 e3 e4 e5
    have g0 := hG3.cell 0
    have g1 := hG3.cell 1
    have g2 := hG3.cell 2
    have u0 := hG3.free 0
    have u1 := hG3.free 1
    have u2 := hG3.free 2
    simp only [List.getElem?_toArray, List.getElem?_cons_succ, List.getElem?_cons_zero] at g0 g1 g2
    have hrow3' : RowAt sesK 58 w3 0 (.slice (some ⟨g, 0, none⟩) l.length cap) (l.set i ⟨xi, tnow, xs, ⟨ye, yn, yx⟩⟩) := hrow3
    generalize l.set i (⟨xi, tnow, xs, ⟨ye, yn, yx⟩⟩ : Mc.Ses) = l2 at hrow3' HR
    clear hcell hgs hls hi3 hrow3
    by_cases hE : seq = xs
    · subst hE
      have dE : ((seq : Int) == (seq : Int)) = true := by simp
      by_cases hP : 0 < seq
      · have dP : decide (0 < (seq : Int)) = true := by simp; omega
        have HQ := Lib.hid (HR.out.trans (if_pos ⟨rfl, hP⟩))
        clear HR hsq hxs
        go_wp2_with fail
        have hV := sets_blk hG3 [.int .i64 ye, .int .u64 yn, .int .u64 yx] rfl
        have hW := sets_only (g := G) hO3 (fun h => by omega) [.int .i64 ye, .int .u64 yn, .int .u64 yx] 0
        have hW2 := sets_only (S := fun k => k = G) (g := G) (Only.refl _ w3) (fun _ => rfl) [.int .i64 ye, .int .u64 yn, .int .u64 yx] 0
        simp only [sets] at hV hW hW2
        refine bodyPost_ret (results_cell_tmp (P := Try.prog) rfl _ _ G _ _ _ _ rfl hV HFS.out rfl size_rep) rfl ?_
        exact ⟨by rw [HQ.out]; rfl, _, by rw [HQ.out]; exact ⟨⟨hB3.keeps hW2 htG, hrow3'.keeps hW2 hvG⟩, fun k hk => .inl hk, hW⟩⟩
      · obtain rfl : seq = 0 := by omega
        have HQ := Lib.hid (HR.out.trans ((if_neg (fun h => hP h.2)).trans (if_pos (.inr rfl))))
        clear HR hsq hxs hP dE
        go_wp2_with fail
        have hV := sets_blk hG3 [.int .i64 41, .int .u64 0, .int .u64 0] rfl
        have hW := sets_only (g := G) hO3 (fun h => by omega) [.int .i64 41, .int .u64 0, .int .u64 0] 0
        have hW2 := sets_only (S := fun k => k = G) (g := G) (Only.refl _ w3) (fun _ => rfl) [.int .i64 41, .int .u64 0, .int .u64 0] 0
        simp only [sets] at hV hW hW2
        refine bodyPost_ret (results_cell_tmp (P := Try.prog) rfl _ _ G _ _ _ _ rfl hV HFS.out rfl size_rep) rfl ?_
        exact ⟨by rw [HQ.out]; rfl, _, by rw [HQ.out]; exact ⟨⟨hB3.keeps hW2 htG, hrow3'.keeps hW2 hvG⟩, fun k hk => .inl hk, hW⟩⟩
    have dE : ((seq : Int) == (xs : Int)) = false := by simp; omega
    by_cases hM : xs + 1 < 18446744073709551616
    · by_cases hN : seq = xs + 1
      · subst hN
        have HQ := Lib.hid (HR.out.trans ((if_neg (fun h => hE h.1)).trans (if_neg (by rintro (h | h); exact h rfl; omega))))
        have dN : (((xs + 1 : Nat) : Int) != (xs : Int) + 1) = false := by simp
        have dZ : (((xs + 1 : Nat) : Int) == 0) = false := by simp; omega
        clear HR hE hsq
        go_wp2_with fail
        have hV := sets_blk hG3 [.int .i64 0, .int .u64 0, .int .u64 0] rfl
        have hW := sets_only (g := G) hO3 (fun h => by omega) [.int .i64 0, .int .u64 0, .int .u64 0] 0
        have hW2 := sets_only (S := fun k => k = G) (g := G) (Only.refl _ w3) (fun _ => rfl) [.int .i64 0, .int .u64 0, .int .u64 0] 0
        simp only [sets] at hV hW hW2
        refine bodyPost_ret (results_cell_tmp (P := Try.prog) rfl _ _ G _ _ _ _ rfl hV HFS.out rfl size_rep) rfl ?_
        exact ⟨by rw [HQ.out]; rfl, _, by rw [HQ.out]; exact ⟨⟨hB3.keeps hW2 htG, hrow3'.keeps hW2 hvG⟩, fun k hk => .inl hk, hW⟩⟩
      · have HQ := Lib.hid (HR.out.trans ((if_neg (fun h => hE h.1)).trans (if_pos (.inl hN))))
        have dN : ((seq : Int) != (xs : Int) + 1) = true := by simp; omega
        clear HR hE hN hsq
        go_wp2_with fail
        have hV := sets_blk hG3 [.int .i64 41, .int .u64 0, .int .u64 0] rfl
        have hW := sets_only (g := G) hO3 (fun h => by omega) [.int .i64 41, .int .u64 0, .int .u64 0] 0
        have hW2 := sets_only (S := fun k => k = G) (g := G) (Only.refl _ w3) (fun _ => rfl) [.int .i64 41, .int .u64 0, .int .u64 0] 0
        simp only [sets] at hV hW hW2
        refine bodyPost_ret (results_cell_tmp (P := Try.prog) rfl _ _ G _ _ _ _ rfl hV HFS.out rfl size_rep) rfl ?_
        exact ⟨by rw [HQ.out]; rfl, _, by rw [HQ.out]; exact ⟨⟨hB3.keeps hW2 htG, hrow3'.keeps hW2 hvG⟩, fun k hk => .inl hk, hW⟩⟩
    · obtain rfl : xs = 18446744073709551615 := by omega
      have HQ := Lib.hid (HR.out.trans ((if_neg (fun h => hE h.1)).trans (if_pos (.inl (by omega)))))
      have dX : ((seq : Int) == 18446744073709551615) = false := by simp; omega
      clear HR hE hM hxs hsq
      by_cases hZ : seq = 0
      · subst hZ
        go_wp2_with fail
        have hV := sets_blk hG3 [.int .i64 41, .int .u64 0, .int .u64 0] rfl
        have hW := sets_only (g := G) hO3 (fun h => by omega) [.int .i64 41, .int .u64 0, .int .u64 0] 0
        have hW2 := sets_only (S := fun k => k = G) (g := G) (Only.refl _ w3) (fun _ => rfl) [.int .i64 41, .int .u64 0, .int .u64 0] 0
        simp only [sets] at hV hW hW2
        refine bodyPost_ret (results_cell_tmp (P := Try.prog) rfl _ _ G _ _ _ _ rfl hV HFS.out rfl size_rep) rfl ?_
        exact ⟨by rw [HQ.out]; rfl, _, by rw [HQ.out]; exact ⟨⟨hB3.keeps hW2 htG, hrow3'.keeps hW2 hvG⟩, fun k hk => .inl hk, hW⟩⟩
      · have dZ : ((seq : Int) != 0) = true := by simp; omega
        have dZ2 : ((seq : Int) == 0) = false := by simp; omega
        clear hZ
        go_wp2_with fail
        have hV := sets_blk hG3 [.int .i64 41, .int .u64 0, .int .u64 0] rfl
        have hW := sets_only (g := G) hO3 (fun h => by omega) [.int .i64 41, .int .u64 0, .int .u64 0] 0
        have hW2 := sets_only (S := fun k => k = G) (g := G) (Only.refl _ w3) (fun _ => rfl) [.int .i64 41, .int .u64 0, .int .u64 0] 0
        simp only [sets] at hV hW hW2
        refine bodyPost_ret (results_cell_tmp (P := Try.prog) rfl _ _ G _ _ _ _ rfl hV HFS.out rfl size_rep) rfl ?_
        exact ⟨by rw [HQ.out]; rfl, _, by rw [HQ.out]; exact ⟨⟨hB3.keeps hW2 htG, hrow3'.keeps hW2 hvG⟩, fun k hk => .inl hk, hW⟩⟩
end Go.Proofs.Ytogeeeigfhmpmaa
