/- session.Table's Register. -/
import Derived.Test.YtogeeeigfhmpmaaTabC
namespace Go.Proofs.Ytogeeeigfhmpmaa
open Go.RowKit
set_option maxRecDepth 100000

set_option maxHeartbeats 1600000 in
theorem register_at (w : World) (tb : Nat) (v : Value) (t : Mc.Tab) (h : TabAt w tb v t) (hk : t.Ok) :
    Calls Try.prog 28 #[.pointer (some ⟨tb, 0, none⟩)] w fun e w' => e = .returned (.tuple #[.int .u64 (t.register.2.1 : Nat), .int .i64 t.register.2.2]) ∧ ∃ v', TabTo tb v t.register.1 w w' v' := by
  have hlen := hk.len
  have hnx := hk.next
  obtain ⟨tnow, next, l⟩ := t
  have h0 := h
  obtain ⟨hB, hrow⟩ := h
  simp only at hB hrow hlen hnx
  have htl := hB.lt
  have c0 := hB.cell 0
  have c1 := hB.cell 1
  have c2 := hB.cell 2
  have f1 := hB.free 1
  have f2 := hB.free 2
  simp only [List.getElem?_toArray, List.getElem?_cons_succ, List.getElem?_cons_zero] at c0 c1 c2
  have hrow0 := hrow
  obtain ⟨ao, cap, rfl⟩ := hrow.shape
  clear hk
  by_cases h16 : 16 ≤ l.length
  · have HR : RowKit.Hid (Mc.Tab.register ⟨tnow, next, l⟩ = (⟨tnow, next, l⟩, 0, 11)) := Lib.hid (by unfold Mc.Tab.register; rw [if_pos (.inl h16)])
    have d0 : decide (16 ≤ (l.length : Int)) = true := by simp; omega
    clear h16
    go_enter Try.func28, Try.ntmps28
    go_wp2_with fail
    go_ret2
    exact ⟨by rw [HR.out]; rfl, _, by rw [HR.out]; exact ⟨h0, fun k hk => .inl hk, Only.refl _ _⟩⟩
  have d0 : decide (16 ≤ (l.length : Int)) = false := by simp; omega
  by_cases hmx : next = 18446744073709551615
  · have HR : RowKit.Hid (Mc.Tab.register ⟨tnow, next, l⟩ = (⟨tnow, next, l⟩, 0, 11)) := Lib.hid (by unfold Mc.Tab.register; rw [if_pos (.inr hmx)])
    have d1 : ((next : Int) == 18446744073709551615) = true := by simp; omega
    clear h16 hmx
    go_enter Try.func28, Try.ntmps28
    go_wp2_with fail
    go_ret2
    exact ⟨by rw [HR.out]; rfl, _, by rw [HR.out]; exact ⟨h0, fun k hk => .inl hk, Only.refl _ _⟩⟩
  have HR : RowKit.Hid (Mc.Tab.register ⟨tnow, next, l⟩ = (⟨tnow, next + 1, l ++ [⟨next, tnow, 0, ⟨0, 0, 0⟩⟩]⟩, next, 0)) := Lib.hid (by unfold Mc.Tab.register; rw [if_neg (by rintro (h | h); exact h16 h; exact hmx h)])
  have d1 : ((next : Int) == 18446744073709551615) = false := by simp; omega
  have hnx1 : next + 1 < 18446744073709551616 := by omega
  have hl1 : l.length + 1 ≤ 16 := by omega
  have hvp := h0.apart
  clear h16 hmx hnx
  go_enter Try.func28, Try.ntmps28
  go_upto_region 3 with fail
  have hlen2 : (l ++ [(⟨next, tnow, 0, ⟨0, 0, 0⟩⟩ : Mc.Ses)]).length = l.length + 1 := by simp
  have HLK2 := Lib.hid hlen2
  clear hlen2 d0 d1
  go_region_law (refine step_append_row1 sesT _ rfl _ _ rfl 0 (.slice ao l.length cap) l ⟨next, tnow, 0, ⟨0, 0, 0⟩⟩ w.heap.size 1 rfl (hrow0.keepsN (((Only.refl NoBlock _).alloc _).drew)) rfl (made_cells_drew sesK w _ _ rfl _ _ rfl) (by omega) (by omega) ?_; intro v7 w7 he7 hg7 hv7; have hp7 : Blk w7 tb _ _ := (hg7.block _ (by simp; omega) (fun e => hvp tb e.symm rfl)).trans (hB.alloc _); have c7 := hp7.cell 2; have f7 := hp7.free 2; simp only [List.getElem?_toArray, List.getElem?_cons_succ, List.getElem?_cons_zero] at c7; obtain ⟨ao7, cap7, rfl⟩ := he7.shape; rw [HLK2.out] at he7 hv7)
  all_goals
    have hB8 : Blk (w7.setCell ⟨tb, 2, none⟩ (.slice ao7 (l.length + 1) cap7)) tb #[.int .u64 tnow, .int .u64 next, .slice ao7 (l.length + 1) cap7] 112 := hp7.setCell 2 (.slice ao7 (l.length + 1) cap7)
    have hap : ∀ j, (Value.slice ao7 (l.length + 1) cap7).ownBlock = some j → j ≠ tb := fun j hj => (he7.ofT hj).ne_blk hp7 (by decide)
    have hS := (Only.refl (fun k => k = tb) w7).setCell (p := ⟨tb, 2, none⟩) (fun _ => rfl) (.slice ao7 (l.length + 1) cap7)
    have hrow8 := he7.keeps hS hap
    have hO8 : Only (fun k => k = tb ∨ (Value.slice ao l.length cap).ownBlock = some k) w (w7.setCell ⟨tb, 2, none⟩ (.slice ao7 (l.length + 1) cap7)) := ((((Only.refl _ w).alloc _).drew).grown hg7 (fun j hj _ => .inr hj)).trans (hS.mono (fun _ h => .inl h))
    generalize w7.setCell ⟨tb, 2, none⟩ (.slice ao7 (l.length + 1) cap7) = w8 at hB8 hrow8 hO8 ⊢
    clear hp7 c7 f7 he7 hg7 hS c0 c1 c2 f1 f2 hB hrow hrow0 h0
    have c1 := hB8.cell 1
    have f1 := hB8.free 1
    simp only [List.getElem?_toArray, List.getElem?_cons_succ, List.getElem?_cons_zero] at c1
    go_wp2_with fail
    go_ret2
    have hS2 := (Only.refl (fun k => k = tb) w8).setCell (p := ⟨tb, 1, none⟩) (fun _ => rfl) (.int .u64 ((next : Int) + 1))
    refine ⟨by rw [HR.out]; rfl, .slice ao7 (l.length + 1) cap7, ?_⟩
    rw [HR.out]
    exact ⟨⟨hB8.setCell 1 (.int .u64 ((next : Int) + 1)), hrow8.keeps hS2 hap⟩, fun j hj => hv7.elim (fun e => .inl (e ▸ hj)) (fun e => .inr (by rw [e] at hj; cases hj; simp)), hO8.trans (hS2.mono (fun _ h => .inl h))⟩
end Go.Proofs.Ytogeeeigfhmpmaa
