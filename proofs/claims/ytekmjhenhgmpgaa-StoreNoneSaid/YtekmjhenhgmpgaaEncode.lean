/- The program's stuff.Encode: what it makes is what the plain lists say. -/
import Derived.Test.YtekmjhenhgmpgaaStuff
import Derived.Test.YtekmjhenhgmpgaaBytes
namespace Go.Proofs.Ytekmjhenhgmpgaa
open Go.RowKit

/-- where the laying out of l stands: out is what is laid, its last piece cur begins at place at' -/
def Stuff.Laid (l : List Int) (k : Nat) (out cur : List Int) (at' : Nat) : Prop :=
  ∃ dn, dn.length = at' ∧ out = dn ++ 0 :: cur ∧ (∀ x ∈ cur, x ≠ 0) ∧ Stuff.enc l = dn ++ Stuff.encP cur (l.drop k)
section
variable {l out cur : List Int} {k at' : Nat}
theorem Stuff.Laid.zero (h : Stuff.Laid l k out cur at') (hd : l.drop k = 0 :: l.drop (k + 1)) : Stuff.Laid l (k + 1) (out.set at' ((out.length : Int) - at') ++ [0]) [] out.length := by
  obtain ⟨dn, rfl, rfl, hc, he⟩ := h
  refine ⟨dn ++ ((cur.length : Int) + 1) :: cur, by simp, ?_, by simp, ?_⟩
  · simp
    omega
  · rw [he, hd, Stuff.encP, if_pos rfl]
    simp
theorem Stuff.Laid.full {c : Int} (h : Stuff.Laid l k out cur at') (hd : l.drop k = c :: l.drop (k + 1)) (hc0 : c ≠ 0) (hf : cur.length + 1 = 254) : Stuff.Laid l (k + 1) ((out ++ [c]).set at' 255 ++ [0]) [] (out.length + 1) := by
  obtain ⟨dn, rfl, rfl, hc, he⟩ := h
  refine ⟨dn ++ 255 :: (cur ++ [c]), by simp; omega, ?_, by simp, ?_⟩
  · simp
  · rw [he, hd, Stuff.encP, if_neg hc0, if_pos hf]
    simp
theorem Stuff.Laid.more {c : Int} (h : Stuff.Laid l k out cur at') (hd : l.drop k = c :: l.drop (k + 1)) (hc0 : c ≠ 0) (hf : cur.length + 1 ≠ 254) : Stuff.Laid l (k + 1) (out ++ [c]) (cur ++ [c]) at' := by
  obtain ⟨dn, e, rfl, hc, he⟩ := h
  refine ⟨dn, e, by simp, ?_, ?_⟩
  · intro x hx
    rcases List.mem_append.1 hx with hx | hx
    · exact hc x hx
    · simp at hx; subst hx; exact hc0
  · rw [he, hd, Stuff.encP, if_neg hc0, if_neg hf]
theorem Stuff.Laid.done (h : Stuff.Laid l l.length out cur at') : out.set at' ((out.length : Int) - at') = Stuff.enc l := by
  obtain ⟨dn, rfl, rfl, hc, he⟩ := h
  rw [he, List.drop_length, Stuff.encP]
  simp
  omega
end

set_option maxRecDepth 100000 in
set_option maxHeartbeats 2000000 in
theorem encode_at (w : World) (ao : Option Addr) (cap : Nat) (l : List Int) (hl : BytesIn w ao l) (hlen : l.length ≤ 70000000000000) :
    Calls Try.prog 91 #[.slice ao l.length cap] w fun e w' => ∃ v, e = .returned v ∧ Bts w' w.heap.size v (Stuff.enc l) ∧ Only NoBlock w w' := by
  go_enter Try.func91, Try.ntmps91
  have hq : ((l.length : Int)).tdiv 254 = ((l.length / 254 : Nat) : Int) := by rw [Int.tdiv_eq_ediv_of_nonneg (by omega)]; omega
  have HQ := Lib.hid hq
  clear hq
  go_wp2_with (refine wpList_make_byte _ rfl _ _ rfl w.heap.size .i64 .i64 (l.length + l.length / 254 + 1) rfl ?_ ?_ ?_ ?_ ?_)
  · show Value.int .i64 ((l.length : Int) + (l.length : Int) / 254 + 1) = _
    congr 1
  · omega
  · omega
  · exact Nat.le_refl _
  intro w1 hb1 hg1
  have ho1 : Only NoBlock w w1 := (Only.refl _ _).grown hg1 (by intro k hk; cases hk)
  go_wp2_with fail
  clear HQ
  go_loopw [3, 4, 17] (fun v3 v4 i wr => ∃ (k : Nat) (out cur : List Int) (at' g cap' : Nat), k ≤ l.length ∧ i = .int .i64 k ∧ v3 = .slice (some ⟨g, 0, none⟩) out.length cap' ∧ v4 = .int .i64 at' ∧
      Bts wr w.heap.size (.slice (some ⟨g, 0, none⟩) out.length cap') out ∧ Only NoBlock w wr ∧ at' + 1 + cur.length ≤ out.length ∧ out.length ≤ at' + 1 + cur.length ∧ out.length ≤ 2 * k + 1 ∧ cur.length ≤ 253 ∧
      RowKit.Hid (Stuff.Laid l k out cur at')) (fun _ _ i _ => l.length - (intOf i).toNat)
  case atStart => exact ⟨0, [0], [], 0, w.heap.size, _, by omega, rfl, rfl, rfl, hb1, ho1, by simp, by simp, by simp, by simp, Lib.hid ⟨[], rfl, rfl, by simp, rfl⟩⟩
  case round =>
    obtain ⟨k, out, cur, at', g, cap', hk, rfl, rfl, rfl, hb, ho, n1, n2, n3, n4, HD⟩ := hrel
    have hz := ho.size
    by_cases hlt : k < l.length
    · obtain ⟨b, off, rfl, hcell, hc0, hc1⟩ := (hl.keeps ho (fun _ _ h => h)).at hlt
      have hdrop : l.drop k = l.getD k 0 :: l.drop (k + 1) := by rw [List.drop_eq_getElem_cons hlt, List.getD_eq_getElem?_getD, List.getElem?_eq_getElem hlt]; rfl
      have HP := Lib.hid hdrop
      clear hdrop
      generalize l.getD k 0 = c at hcell hc0 hc1 HP
      have hfz := hb.free rfl at'
      have hcl : wr.cell? ⟨g, at', none⟩ = some (.int .u8 0) := by
        rw [hb.at rfl at' (by omega)]
        obtain ⟨dn, e1, e2, _⟩ := HD.out
        rw [e2]; subst e1; simp
      have hgl : g < wr.heap.size := World.block_lt_of_cell? wr _ hcl
      have hgb := (World.ownsRow.lt hb g rfl).1
      by_cases hc : c = 0
      · subst hc
        go_wp2_with (first
          | (at_builtin; refine wpList_append_byte _ rfl _ _ rfl w.heap.size _ (out.set at' _) 0 ⟨wr.heap.size, 0, none⟩ 1 rfl ((Bts.write hb rfl at' _).1.keeps ((Only.refl NoBlock _).alloc _) (fun _ _ h => h)) rfl ?_ ?_ ?_ ?_; (exact cell_byte _ _ _ _ (by simp)); (rw [List.length_set]; omega); (simp; omega); intro v' w2 hb2 hg2; obtain ⟨g2, cap2, rfl, _, _, _⟩ := Bts.shape hb2 (by simp)))
        go_roundw
        case rel =>
          refine ⟨k + 1, out.set at' ((out.length : Int) - at') ++ [0], [], out.length, g2, cap2, by omega, by go_num, by simp, rfl, hb2, ?_, by simp, by simp, by simp; omega, by simp, Lib.hid (HD.out.zero HP.out)⟩
          refine (((ho.setCell (p := ⟨g, at', none⟩) (fun h => absurd h (by simp; omega)) _).alloc _).grown hg2 ?_)
          intro i hi hlt'
          have e : some g = some i := hi
          cases e
          omega
        case measure => simp [intOf]; omega
      · by_cases hf : cur.length + 1 = 254
        · have hq : ((out.length : Int) + 1 - (at' : Int) == 255) = true := by simp; omega
          go_wp2_with (first
            | (at_builtin; refine wpList_append_byte _ rfl _ _ rfl w.heap.size _ out c ⟨wr.heap.size, 0, none⟩ 1 rfl (hb.keeps ((Only.refl NoBlock _).alloc _) (fun _ _ h => h)) rfl ?_ ?_ ?_ ?_; (exact cell_byte _ _ _ _ (by simp)); omega; (simp; omega); intro v' w2 hb2 hg2; obtain ⟨g2, cap2, rfl, hgb2, _, _⟩ := Bts.shape hb2 (by simp); rw [List.length_append] at hb2; have hfz2 := Bts.free hb2 (by simp) at'; have hcl2 := Bts.at hb2 (by simp) at' (by simp; omega))
            | (at_builtin; refine wpList_append_byte _ rfl _ _ rfl w.heap.size _ ((out ++ [c]).set at' _) 0 ⟨w2.heap.size, 0, none⟩ 1 rfl ((Bts.write hb2 (by simp) at' _).1.keeps ((Only.refl NoBlock _).alloc _) (fun _ _ h => h)) rfl ?_ ?_ ?_ ?_; (exact cell_byte _ _ _ _ (by simp)); (simp; omega); (have := hg2.size; simp at this ⊢; omega); intro v' w3 hb3 hg3; obtain ⟨g3, cap3, rfl, _, _, _⟩ := Bts.shape hb3 (by simp)))
          go_roundw
          case rel =>
            have hfl := HD.out.full HP.out hc hf
            have e255 : (out.length : Int) + 1 - at' = 255 := by omega
            rw [e255] at hb3
            refine ⟨k + 1, (out ++ [c]).set at' 255 ++ [0], [], out.length + 1, g3, cap3, by omega, by go_num, by simp, by simp, hb3, ?_, by simp, by simp, by simp; omega, by simp, Lib.hid hfl⟩
            refine ((((ho.alloc _).grown hg2 ?_).setCell (p := ⟨g2, at', none⟩) (fun h => absurd h (by simp; omega)) _).alloc _).grown hg3 ?_
            · intro i hi hlt'
              have e : some g = some i := hi
              cases e
              omega
            · intro i hi hlt'
              have e : some g2 = some i := hi
              cases e
              omega
          case measure => simp [intOf]; omega
        · have hq : ((out.length : Int) + 1 - (at' : Int) == 255) = false := by simp; omega
          go_wp2_with (first
            | (at_builtin; refine wpList_append_byte _ rfl _ _ rfl w.heap.size _ out c ⟨wr.heap.size, 0, none⟩ 1 rfl (hb.keeps ((Only.refl NoBlock _).alloc _) (fun _ _ h => h)) rfl ?_ ?_ ?_ ?_; (exact cell_byte _ _ _ _ (by simp)); omega; (simp; omega); intro v' w2 hb2 hg2; obtain ⟨g2, cap2, rfl, hgb2, _, _⟩ := Bts.shape hb2 (by simp); rw [List.length_append] at hb2; have hfz2 := Bts.free hb2 (by simp) at'; have hcl2 := Bts.at hb2 (by simp) at' (by simp; omega)))
          go_roundw
          case rel =>
            refine ⟨k + 1, out ++ [c], cur ++ [c], at', g2, cap2, by omega, by go_num, by simp, rfl, by rw [List.length_append]; exact hb2, ?_, by simp; omega, by simp; omega, by simp; omega, by simp; omega, Lib.hid (HD.out.more HP.out hc hf)⟩
            refine ((ho.alloc _).grown hg2 ?_)
            intro i hi hlt'
            have e : some g = some i := hi
            cases e
            omega
          case measure => simp [intOf]; omega
    · have e : k = l.length := by omega
      subst e
      have hfz := hb.free rfl at'
      have hcl : wr.cell? ⟨g, at', none⟩ = some (.int .u8 (out.getD at' 0)) := hb.at rfl at' (by omega)
      have hgl : g < wr.heap.size := World.block_lt_of_cell? wr _ hcl
      have hgb := (World.ownsRow.lt hb g rfl).1
      go_wp2_with fail
      go_ret
      refine ⟨_, rfl, ?_, ho.setCell (p := ⟨g, at', none⟩) (fun h => absurd h (by simp; omega)) _⟩
      have := (Bts.write hb rfl at' ((out.length : Int) - at')).1
      rw [HD.out.done] at this
      exact this

end Go.Proofs.Ytekmjhenhgmpgaa
