/- session.Table's End: the reply to a session's newest command is kept. -/
import Derived.Test.YtogeeeigfhmpmaaTabB
namespace Go.Proofs.Ytogeeeigfhmpmaa
open Go.RowKit
set_option maxRecDepth 100000

theorem ses_set {l : List Mc.Ses} {i : Nat} (hi : i < l.length) (a : Mc.Ses) : (l.set i a).getD i sesK.zero = a := by
  rw [List.getD_eq_getElem?_getD, List.getElem?_eq_getElem (by rw [List.length_set]; exact hi), List.getElem_set_self]; rfl
theorem ses_write4 {w : World} {g cap i : Nat} {l : List Mc.Ses} (h : RowAt sesK 58 w 0 (.slice (some ⟨g, 0, none⟩) l.length cap) l) (hi : i < l.length) {xi xu xs : Nat} {xr : Mc.Rep} (hx : l.getD i sesK.zero = ⟨xi, xu, xs, xr⟩) (s : Nat) (y : Mc.Rep) :
    RowAt sesK 58 ((((w.setCell ⟨g, i * 6 + 2, none⟩ (.int .u64 s)).setCell ⟨g, i * 6 + 3, none⟩ (.int .i64 y.err)).setCell ⟨g, i * 6 + 3 + 1, none⟩ (.int .u64 y.num)).setCell ⟨g, i * 6 + 3 + 1 + 1, none⟩ (.int .u64 y.extra)) 0 (.slice (some ⟨g, 0, none⟩) l.length cap) (l.set i ⟨xi, xu, s, y⟩) := by
  have h2 := h.write rfl hi (j := 2) (by decide) ⟨xi, xu, s, xr⟩ (.int .u64 s) (by rw [hx]; rfl)
  have h3 := h2.write (by rw [List.length_set]) (by rw [List.length_set]; exact hi) (j := 3) (by decide) ⟨xi, xu, s, ⟨y.err, xr.num, xr.extra⟩⟩ (.int .i64 y.err) (by rw [ses_set hi]; rfl)
  rw [List.set_set] at h3
  have h4 := h3.write (by rw [List.length_set]) (by rw [List.length_set]; exact hi) (j := 4) (by decide) ⟨xi, xu, s, ⟨y.err, y.num, xr.extra⟩⟩ (.int .u64 y.num) (by rw [ses_set hi]; rfl)
  rw [List.set_set] at h4
  have h5 := h4.write (by rw [List.length_set]) (by rw [List.length_set]; exact hi) (j := 5) (by decide) ⟨xi, xu, s, ⟨y.err, y.num, y.extra⟩⟩ (.int .u64 y.extra) (by rw [ses_set hi]; rfl)
  rw [List.set_set] at h5
  exact h5
set_option maxHeartbeats 4000000 in
theorem tend_at (w : World) (tb : Nat) (v : Value) (t : Mc.Tab) (h : TabAt w tb v t) (hlen : t.rows.length ≤ 16) (id seq : Nat) (y : Mc.Rep) (i : Nat) (hf : Mc.find t.rows id = some i) (hs : (t.rows.getD i ⟨0, 0, 0, ⟨0, 0, 0⟩⟩).seq + 1 = seq) (hsq : seq < 18446744073709551616) :
    Calls Try.prog 32 #[.pointer (some ⟨tb, 0, none⟩), .int .u64 id, .int .u64 seq, repV y] w fun e w' => e = .returned (.bool true) ∧ ∃ v', TabTo tb v (t.end_ id seq y) w w' v' := by
  obtain ⟨err, yn, yx⟩ := y
  show Calls Try.prog 32 #[.pointer (some ⟨tb, 0, none⟩), .int .u64 id, .int .u64 seq, .agg #[.int .i64 err, .int .u64 yn, .int .u64 yx]] w _
  obtain ⟨he, hi⟩ := findV_some hf
  obtain ⟨⟨xi, xu, xs, xr⟩, hx⟩ : ∃ x, t.rows.getD i ⟨0, 0, 0, ⟨0, 0, 0⟩⟩ = x := ⟨_, rfl⟩
  have HR := Lib.hid (end_some (seq := seq) (y := ⟨err, yn, yx⟩) hf hx hi)
  rw [hx] at hs
  simp only at hs
  subst hs
  have htl := h.blk.lt
  have hapt := h.apart
  go_enter Try.func32, Try.ntmps32
  go_upto_region 1 with fail
  have hS := Blk.made w #[.int .i64 err, .int .u64 yn, .int .u64 yx] 34
  have hO := (Only.refl NoBlock w).alloc (Obj.cells #[.int .i64 err, .int .u64 yn, .int .u64 yx] 34)
  have hT := h.keepsN hO
  have hvS : ∀ k, v.ownBlock = some k → k ≠ w.heap.size := fun k hk e => by have := (h.row.ofT hk).lt; omega
  generalize w.alloc (Obj.cells #[.int .i64 err, .int .u64 yn, .int .u64 yx] 34) = w1 at hS hO hT ⊢
  generalize hSe : w.heap.size = S at hS hvS ⊢
  clear h
  go_wp2_with fail
  refine (sfind_at w1 tb v t hT hlen id).mono ?_
  rintro e w2 ⟨rfl, hO2⟩
  rw [he]
  have hT2 := hT.keepsN hO2
  have hS2 := hS.keeps hO2 (fun h => h)
  have hO2' := hO.trans hO2
  obtain ⟨tnow, next, l⟩ := t
  simp only at hi HR hx hlen
  clear he hf hT hS hO hO2 hSe
  obtain ⟨hB, hrow⟩ := hT2
  simp only at hB hrow
  obtain ⟨g, cap, rfl, _, hlc, hcm, hgl⟩ := hrow.shapeG (by omega)
  have hgS : g ≠ S := hvS g rfl
  have htg : g ≠ tb := hapt g rfl
  have hgx : l.getD i sesK.zero = ⟨xi, xu, xs, xr⟩ := hx
  have hcell := fun j (hj : j < 6) => hrow.cell rfl hi (j := j) hj
  rw [hgx] at hcell
  have e2 := hcell 2 (by decide)
  have e3 := hcell 3 (by decide)
  have e4 := hcell 4 (by decide)
  have e5 := hcell 5 (by decide)
  simp only [sesK, List.getElem?_cons_succ, List.getElem?_cons_zero] at e2 e3 e4 e5
  have q2 := hrow.free rfl (i * 6 + 2)
  have q3 := hrow.free rfl (i * 6 + 3)
  have q4 := hrow.free rfl (i * 6 + 4)
  have q5 := hrow.free rfl (i * 6 + 5)
  have c2 := hB.cell 2
  have s0 := hS2.cell 0
  have s1 := hS2.cell 1
  have s2 := hS2.cell 2
  simp only [List.getElem?_toArray, List.getElem?_cons_succ, List.getElem?_cons_zero] at c2 s0 s1 s2
  have hil : decide (i < l.length) = true := by simpa using hi
  have hi0 : ¬ ((i : Int) < 0) := by omega
  have dZ : (((xs + 1 : Nat) : Int) == 0) = false := by simp; omega
  have dN : (((xs + 1 : Nat) : Int) != (xs : Int) + 1) = false := by simp
  have dZ2 : ((xs : Int) + 1 == 0) = false := by simp; omega
  have hxs : xs + 1 ≤ 18446744073709551615 := by omega
  have HX := Lib.hid hgx
  clear hgx hx hcell hvS
  go_upto_region 4 with fail
  go_region
  all_goals (go_wp2_with fail)
  all_goals
    go_ret
    have hrow' := ses_write4 hrow hi HX.out (xs + 1) ⟨err, yn, yx⟩
    have hW : Only (fun k => k = g) w2 ((((w2.setCell ⟨g, i * 6 + 2, none⟩ (.int .u64 ((xs + 1 : Nat) : Int))).setCell ⟨g, i * 6 + 3, none⟩ (.int .i64 err)).setCell ⟨g, i * 6 + 3 + 1, none⟩ (.int .u64 yn)).setCell ⟨g, i * 6 + 3 + 1 + 1, none⟩ (.int .u64 yx)) := ((((Only.refl (fun k => k = g) w2).setCell (p := ⟨g, i * 6 + 2, none⟩) (fun _ => rfl) _).setCell (p := ⟨g, i * 6 + 3, none⟩) (fun _ => rfl) _).setCell (p := ⟨g, i * 6 + 3 + 1, none⟩) (fun _ => rfl) _).setCell (p := ⟨g, i * 6 + 3 + 1 + 1, none⟩) (fun _ => rfl) _
    have e1 : ((xs + 1 : Nat) : Int) = (xs : Int) + 1 := by omega
    rw [e1] at hrow' hW
    refine ⟨rfl, .slice (some ⟨g, 0, none⟩) l.length cap, ?_⟩
    rw [HR.out]
    have hB' := hB.keeps hW (fun e => htg e.symm)
    have hO' := hO2'.of_no.trans (hW.mono (T := fun k => k = tb ∨ (Value.slice (some ⟨g, 0, none⟩) l.length cap).ownBlock = some k) (fun k hk => .inr (by rw [hk]; rfl)))
    exact ⟨⟨hB'.drew, hrow'.keepsN ((Only.refl NoBlock _).drew)⟩, fun k hk => .inl hk, hO'.drew⟩
end Go.Proofs.Ytogeeeigfhmpmaa
