/- The document's wheel: one unit of time more. -/
import Derived.Test.YtklpdkojffaiiaaRset9
import Derived.Test.YtklpdkojffaiiaaTick
namespace Go.Proofs.Ytklpdkojffaiiaa
open Go.RowKit Go.Shelf
set_option maxRecDepth 100000

namespace Rw
open Wh
theorem RefW.only {w : World} {R : Nat → Prop} {r now : Nat} {A : List Tm} (h : RefW w R r now A) : RefW w (fun b => R b ∧ b < w.heap.size) r now A := by
  obtain ⟨vi, vd, h1, h2, h3, h4, h5, h6⟩ := h
  exact ⟨vi, vd, h1, h2, h3, ⟨h4, h1.lt⟩, fun b e => ⟨h5 b e, (h2.lt b e).2⟩, fun b e => ⟨h6 b e, (h3.lt b e).2⟩⟩
theorem RefW.setNow {w : World} {R : Nat → Prop} {r now : Nat} {A : List Tm} (h : RefW w R r now A) (x : Nat) : RefW (w.setCell ⟨r, 0, none⟩ (.int .u64 x)) R r x A ∧ Only R w (w.setCell ⟨r, 0, none⟩ (.int .u64 x)) := by
  obtain ⟨vi, vd, h1, h2, h3, h4, h5, h6⟩ := h
  have ho : Only (fun k => k = r) w (w.setCell ⟨r, 0, none⟩ (.int .u64 (x : Int))) := Only.setCell (S := fun k => k = r) (p := ⟨r, 0, none⟩) (Only.refl _ _) (fun _ => rfl) _
  have h7 := h1.setCell 0 (.int .u64 (x : Int))
  exact ⟨⟨vi, vd, h7, h2.keeps ho (fun b e hk => by subst hk; exact h2.apart h1 (by decide) e), h3.keeps ho (fun b e hk => by subst hk; exact h3.apart h1 (by decide) e), h4, h5, h6⟩, ho.mono (fun k e => by subst e; exact h4)⟩
/-- how many the row in the wheel's second cell has -/
def rlen (r : Nat) (w : World) : Nat := match w.cell? ⟨r, 1, none⟩ with | some (.slice _ n _) => n | _ => 0
theorem RefW.rlen {w : World} {R : Nat → Prop} {r now : Nat} {A : List Tm} (h : RefW w R r now A) : rlen r w = A.length := by
  obtain ⟨vi, vd, h1, h2, _⟩ := h
  obtain ⟨ao, cap, rfl, _⟩ := h2.shape
  unfold Rw.rlen
  rw [h1.cell]
  simp
/-- the list while the time passes: k are looked at -/
def cur (A : List Tm) (N k : Nat) : List Tm := restA (A.take k) N ++ A.drop k
theorem cur_zero (A : List Tm) (N : Nat) : cur A N 0 = A := by simp [cur, restA]
theorem cur_end (A : List Tm) (N : Nat) : cur A N A.length = restA A N := by simp [cur]
theorem cur_len {A : List Tm} {N k : Nat} (_hk : k ≤ A.length) : (cur A N k).length = (restA (A.take k) N).length + (A.length - k) := by simp [cur]
theorem cur_get {A : List Tm} {N k : Nat} : (cur A N k).getD (restA (A.take k) N).length Tm.zero = A.getD k Tm.zero := by
  unfold cur
  rw [List.getD_eq_getElem?_getD, List.getElem?_append_right (Nat.le_refl _), Nat.sub_self, List.getElem?_drop, List.getD_eq_getElem?_getD, Nat.add_zero]
theorem rest_take {A : List Tm} {N k : Nat} (hk : k < A.length) : restA (A.take (k + 1)) N = restA (A.take k) N ++ (if (A.getD k Tm.zero).due = N then [] else [A.getD k Tm.zero]) := by
  unfold restA
  rw [List.take_succ_eq_append_getElem hk, List.filter_append, List.getD_eq_getElem?_getD, List.getElem?_eq_getElem hk]
  simp only [Option.getD_some, List.filter_cons, List.filter_nil]
  by_cases h : A[k].due = N <;> simp [h]
theorem due_take {A : List Tm} {N k : Nat} (hk : k < A.length) : dueA (A.take (k + 1)) N = dueA (A.take k) N ++ (if (A.getD k Tm.zero).due = N then [A.getD k Tm.zero] else []) := by
  unfold dueA
  rw [List.take_succ_eq_append_getElem hk, List.filter_append, List.getD_eq_getElem?_getD, List.getElem?_eq_getElem hk]
  simp only [Option.getD_some, List.filter_cons, List.filter_nil]
  by_cases h : A[k].due = N <;> simp [h]
theorem drop_cons {A : List Tm} {k : Nat} (hk : k < A.length) : A.drop k = A.getD k Tm.zero :: A.drop (k + 1) := by
  rw [List.getD_eq_getElem?_getD, List.getElem?_eq_getElem hk]
  exact List.drop_eq_getElem_cons hk
theorem cur_yes {A : List Tm} {N k : Nat} (hk : k < A.length) (h : (A.getD k Tm.zero).due = N) : (cur A N k).eraseIdx (restA (A.take k) N).length = cur A N (k + 1) := by
  unfold cur
  rw [rest_take hk, if_pos h, List.append_nil, List.eraseIdx_append_of_length_le (Nat.le_refl _), Nat.sub_self, drop_cons hk]
  rfl
theorem cur_no {A : List Tm} {N k : Nat} (hk : k < A.length) (h : ¬ (A.getD k Tm.zero).due = N) : cur A N (k + 1) = cur A N k := by
  unfold cur
  rw [rest_take hk, if_neg h, drop_cons hk, List.append_assoc]
  rfl
end Rw
set_option maxHeartbeats 4000000 in
theorem rtick_at (w : World) (R : Nat → Prop) (r now : Nat) (A : List Wh.Tm) (h : Rw.RefW w R r now A) (hnow : now < 4611686018427387904) (hlen : A.length ≤ 1000) :
    Calls Try.prog 19 #[.pointer (some ⟨r, 0, none⟩)] w fun e w' => ∃ v : Value, e = .returned v ∧ Ints w' w.heap.size v ((Wh.dueA A (now + 1)).map (·.id)) ∧ Rw.RefW w' (Rw.plus R w w') r (now + 1) (Wh.restA A (now + 1)) ∧ Only R w w' := by
  have hs := h.setNow (now + 1)
  have c0 : w.cell? ⟨r, 0, none⟩ = some (.int .u64 now) := by obtain ⟨vi, vd, hb, _⟩ := h; rw [hb.cell]; rfl
  have f0 : w.frozen? ⟨r, 0, none⟩ = false := by obtain ⟨vi, vd, hb, _⟩ := h; exact hb.free 0
  have hinc : IntKind.u64.wrap ((now : Int) + 1) = ((now + 1 : Nat) : Int) := by rw [IntKind.wrap_u64]; omega
  have hR0 : ∀ {b}, R b → R b := fun h => h
  obtain ⟨N, hN⟩ : ∃ N, now + 1 = N := ⟨_, rfl⟩
  rw [hN] at hs hinc ⊢
  go_enter Try.func19, Try.ntmps19
  go_upto_region 2 with fail
  obtain ⟨h1, o1⟩ := hs
  generalize World.setCell w ⟨r, 0, none⟩ (.int .u64 N) = w1 at h1 o1 ⊢
  clear c0 f0 hinc
  have hz1 := o1.size
  go_wp2_with fail
  go_loopw [4, 3] (fun u4 u3 wr => ∃ k : Nat, k ≤ A.length ∧ u4 = .int .i64 ((Wh.restA (A.take k) N).length : Int) ∧ Ints wr w.heap.size u3 ((Wh.dueA (A.take k) N).map (·.id)) ∧ Rw.RefW wr (fun b => Rw.plus R w wr b ∧ u3.ownBlock ≠ some b) r N (Rw.cur A N k) ∧ Only R w wr) (fun u4 _ wr => Rw.rlen r wr - (intOf u4).toNat)
  case atStart => exact ⟨0, by omega, rfl, Ints.nil' _ _, by rw [Rw.cur_zero]; exact h1.more (fun b e => ⟨.inl e, by simp [Value.ownBlock]⟩), o1⟩
  case round =>
    obtain ⟨k, hk, rfl, hI, hR, ho⟩ := hrel
    have hrl := hR.rlen
    have hcl := Rw.cur_len (N := N) hk
    have hKk : (Wh.restA (A.take k) N).length ≤ k := by
      have h1 : (Wh.restA (A.take k) N).length ≤ (A.take k).length := List.length_filter_le _ _
      rw [List.length_take] at h1
      omega
    obtain ⟨C, hC⟩ : ∃ C, Rw.cur A N k = C := ⟨_, rfl⟩
    obtain ⟨n, hn⟩ : ∃ n, (Wh.restA (A.take k) N).length = n := ⟨_, rfl⟩
    obtain ⟨vi, vd, hb, hri, hrd, hRr, hRi, hRd⟩ := _root_.id hR
    rw [hC] at hri hrd hrl hcl hR
    rw [hn] at hcl hKk ⊢
    obtain ⟨ao, cap, rfl, hca, hcm, hnone⟩ := hri.shape
    obtain ⟨bo, capb, rfl, hcb, hcmb, hnoneb⟩ := hrd.shape
    have cc0 : wr.cell? ⟨r, 0, none⟩ = some (.int .u64 N) := by rw [hb.cell]; rfl
    have cc1 : wr.cell? ⟨r, 1, none⟩ = some (.slice ao C.length cap) := by rw [hb.cell]; simp
    have cc2 : wr.cell? ⟨r, 2, none⟩ = some (.slice bo C.length capb) := by rw [hb.cell]; simp
    by_cases hlt : k < A.length
    · have hnC : n < C.length := by omega
      obtain ⟨g, rfl, hci⟩ := hri.at_ (i := n) (by rw [List.length_map]; exact hnC)
      obtain ⟨g2, rfl, hcd⟩ := hrd.at_ (i := n) (by rw [List.length_map]; exact hnC)
      rw [Wh.map_getD (·.id) 0 hnC] at hci
      rw [Wh.map_getD (fun t => (t.due : Int)) 0 hnC] at hcd
      have hget : C.getD n Wh.Tm.zero = A.getD k Wh.Tm.zero := by rw [← hC, ← hn]; exact Rw.cur_get
      rw [hget] at hci hcd
      have hdt := Rw.due_take (N := N) hlt
      have hrt := Rw.rest_take (N := N) hlt
      have hyes := Rw.cur_yes (N := N) hlt
      have hno := Rw.cur_no (N := N) hlt
      rw [hn, hC] at hyes
      rw [hC] at hno
      obtain ⟨t, ht⟩ : ∃ t, A.getD k Wh.Tm.zero = t := ⟨_, rfl⟩
      rw [ht] at hci hcd hdt hrt hyes hno
      obtain ⟨ti, td, tt⟩ := t
      simp only at hci hcd hdt hrt hyes hno
      have HDT := Lib.hid hdt
      have HRT := Lib.hid hrt
      have HYES := Lib.hid hyes
      have HNO := Lib.hid hno
      have HRL := Lib.hid hrl
      have HN2 := Lib.hid hn
      have HCL := Lib.hid hcl
      have hCl : C.length ≤ 1000 := by omega
      clear hcl hdt hrt hyes hno hget ht hC hrl hri hrd hn hca hcm hnone hcb hcmb hnoneb hb hRr hRi hRd
      by_cases he : td = N
      · have hq : ((td : Int) == (N : Int)) = true := by rw [beq_iff_eq]; omega
        have hq2 : (td == N) = true := by rw [beq_iff_eq]; omega
        have HE := Lib.hid he
        clear he
        go_upto_region 5 with fail
        go_region
        have hI2 := hI.keeps' (Only.refl NoBlock wr).drew (fun _ _ h => h)
        have hR2 := hR.keeps (Only.refl NoBlock wr).drew (fun _ _ h => h)
        have cd0 := Wh.cell_same (Only.refl NoBlock wr).drew cc1
        have cd1 := Wh.cell_same (Only.refl NoBlock wr).drew hci
        have hod := ho.drew
        have hrz : wr.heap.size = (wr.drew).heap.size := rfl
        have hpw : ∀ b, Rw.plus R w wr b → Rw.plus R w wr.drew b := fun b e => e
        generalize wr.drew = w3 at hI2 hR2 cd0 cd1 hod hrz hpw ⊢
        clear cc0 cc1 cc2 hcd hci hq hq2
        have hz3 := hod.size
        have hR3 := hR2.only
        obtain ⟨R3, hR3e⟩ : ∃ R3 : Nat → Prop, (fun b => (Rw.plus R w wr b ∧ u3.ownBlock ≠ some b) ∧ b < w3.heap.size) = R3 := ⟨_, rfl⟩
        have HR3 : ∀ b, R3 b → (Rw.plus R w wr b ∧ u3.ownBlock ≠ some b) ∧ b < w3.heap.size := fun b e => by rw [← hR3e] at e; exact e
        rw [hR3e] at hR3
        clear hR3e hR2 hR hI ho hpw
        have hdl : ((Wh.dueA (A.take k) N).map (·.id)).length ≤ 1000 := by
          rw [List.length_map]
          have h1 : (Wh.dueA (A.take k) N).length ≤ (A.take k).length := List.length_filter_le _ _
          rw [List.length_take] at h1
          omega
        obtain ⟨acc, hacc⟩ : ∃ acc, (Wh.dueA (A.take k) N).map (·.id) = acc := ⟨_, rfl⟩
        rw [hacc] at hI2 hdl
        have HACC := Lib.hid hacc
        clear hacc
        go_upto_region 7 with (first
          | (at_builtin; refine Rw.wpList_append_row _ 27 3 .i64 Rw.u_i Rw.i_i rfl _ _ rfl w.heap.size u3 acc [ti] ⟨w3.heap.size, 0, none⟩ 1 1 rfl (Rw.Row.keeps hI2 ((Only.refl NoBlock _).alloc _) (fun _ _ h => h)) rfl rfl (fun j hj => Rw.one_celli _ _ _ _ rfl j hj) (by simp; omega) (by simp; omega) ?_; intro v' w4 hb4 hg4 hor4))
        have hG4 := Wh.grown_pre ((Only.refl NoBlock w3).alloc _) hg4
        have hO34 := Only.of_grown hG4
        have hR4 := hR3.keeps hO34 (fun b e h => (HR3 b e).1.2 h)
        have hz4 := hO34.size
        have hvn : ∀ b, v'.ownBlock = some b → ¬ R3 b := fun b e hr => by
          rcases hor4 with h | h
          · exact (HR3 b hr).1.2 (by rw [← h]; exact e)
          · rw [h] at e
            cases e
            have := (HR3 _ hr).2
            rw [World.size_alloc] at this
            omega
        have hul : ∀ b, u3.ownBlock = some b → w.heap.size ≤ b := fun b e => (Rw.Row.lt hI2 b e).1
        have o4 : Only R w w4 := hod.andThen hO34 (fun i hi e => by have := hul i e; omega)
        have hdr := rdrop_at w4 R3 r N C hR4 n hnC hCl
        rw [HYES.out HE.out] at hdr
        clear hR3 hR4 cd0 cd1
        go_wp2_with fail
        refine hdr.mono ?_
        rintro e w5 ⟨⟨vv, rfl⟩, h5, o5⟩
        have hz5 := o5.size
        have hb5 := Rw.Row.keeps hb4 o5 hvn
        have o6 : Only R w w5 := o4.andThen o5 (fun i hi e => ((HR3 i e).1.1).resolve_right (by omega))
        have hr5 := h5.rlen
        have h6 : Rw.RefW w5 (fun b => Rw.plus R w w5 b ∧ v'.ownBlock ≠ some b) r N (Rw.cur A N (k + 1)) := h5.more (fun b e => by
          rcases e with e | e
          · refine ⟨((HR3 b e).1.1).imp (fun h => h) (fun h => ⟨h.1, by omega⟩), fun h => hvn b h e⟩
          · refine ⟨.inr ⟨by omega, e.2⟩, fun h => ?_⟩
            have := (Rw.Row.lt hb4 b h).2
            omega)
        have hIn : Ints w5 w.heap.size v' ((Wh.dueA (A.take (k + 1)) N).map (·.id)) := by
          rw [HDT.out, if_pos HE.out, List.map_append, HACC.out]
          exact hb5
        have hnn : n = (Wh.restA (A.take (k + 1)) N).length := by rw [HRT.out, if_pos HE.out, List.append_nil, HN2.out]
        have hcl5 := Rw.cur_len (N := N) (show k + 1 ≤ A.length from hlt)
        rw [← hnn] at hcl5
        have HX : RowKit.Hid (Rw.rlen r w5 - n < Rw.rlen r wr - n) := Lib.hid (by rw [hr5, hcl5, HRL.out, HCL.out]; omega)
        have HNN := Lib.hid hnn
        clear hdr hb4 hg4 hor4 hG4 hO34 h5 hb5 hr5 hcl5 hnn hI2
        go_wp2_with fail
        go_roundw
        case rel => exact ⟨k + 1, hlt, by rw [← HNN.out], hIn, h6, o6⟩
        case measure => simpa [intOf] using HX.out
      · have hq : ((td : Int) == (N : Int)) = false := by rw [beq_eq_false_iff_ne]; omega
        have hq2 : (td == N) = false := by rw [beq_eq_false_iff_ne]; omega
        have HE := Lib.hid he
        clear he
        go_upto_region 5 with fail
        go_region
        have hI2 := hI.keeps' (Only.refl NoBlock wr).drew (fun _ _ h => h)
        have hR2 : Rw.RefW wr.drew (fun b => Rw.plus R w wr.drew b ∧ u3.ownBlock ≠ some b) r N C := hR.keeps (Only.refl NoBlock wr).drew (fun _ _ h => h)
        have hod := ho.drew
        have hr5 := hR2.rlen
        generalize wr.drew = w3 at hI2 hR2 hod hr5 ⊢
        have hnn : n + 1 = (Wh.restA (A.take (k + 1)) N).length := by rw [HRT.out, if_neg HE.out, List.length_append, HN2.out]; rfl
        have hIn : Ints w3 w.heap.size u3 ((Wh.dueA (A.take (k + 1)) N).map (·.id)) := by
          rw [HDT.out, if_neg HE.out, List.append_nil]
          exact hI2
        have HX : RowKit.Hid (Rw.rlen r w3 - (n + 1) < Rw.rlen r wr - n) := Lib.hid (by rw [hr5, HRL.out]; omega)
        have HNN := Lib.hid hnn
        rw [← HNO.out HE.out] at hR2
        clear cc0 cc1 cc2 hcd hci hq hq2 hI hR ho hr5 hnn hI2
        go_wp2_with fail
        go_roundw
        case rel => exact ⟨k + 1, hlt, (by rw [← HNN.out]; push_cast; rfl), hIn, hR2, hod⟩
        case measure => have := HX.out; simp [intOf]; omega
    · obtain rfl : k = A.length := by omega
      have hcn : C.length = n := by omega
      rw [hcn] at cc1 cc2
      clear hcl hcn hrl
      rw [List.take_length] at hI
      have hfin : Rw.RefW wr (Rw.plus R w wr) r N (Wh.restA A N) := by rw [← Rw.cur_end, hC]; exact hR.more (fun b e => e.1)
      clear hri hrd hn hca hcm hnone hcb hcmb hnoneb hb hRr hRi hRd hR hC
      go_wp2_with fail
      go_ret
      exact ⟨_, rfl, hI, hfin, ho⟩
end Go.Proofs.Ytklpdkojffaiiaa
