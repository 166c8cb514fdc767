/- Arguments as the walks take them: lists of numbers. -/
import Derived.Test.YtfmpmdkedpollaaDiskE
import Derived.ProofKit
import Derived.Deep.Slices
import Derived.Deep.Fields
import Derived.ChangeSame
namespace Go.Proofs.Ytfmpmdkedpollaa
open Go.RowKit Go.Maps Go.ChangeShapes Go.WideShapes Go.Deep

namespace On
theorem u_ints : Try.prog.underlying 30 = some (.slice 3) := by kernel_rfl
theorem u_int : Try.prog.underlying 3 = some (.int .i64) := by kernel_rfl
theorem add_none (b off j : Nat) : (⟨b, off, none⟩ : Addr).add j = ⟨b, off + j, none⟩ := by unfold Addr.add; split <;> simp_all
end On

theorem IntsIn.stay {S : Nat → Prop} {w w' : World} {ao : Option Addr} {l : List Int} (h : IntsIn w ao l) (ho : Only S w w') (hs : ∀ a, ao = some a → ¬ S a.block) : IntsIn w' ao l :=
  ⟨h.wf, h.len, fun i hi => by
    obtain ⟨b, off, e, hc⟩ := h.cell i hi
    refine ⟨b, off, e, ?_⟩
    have hlt : b < w.heap.size := World.block_lt_of_cell? w _ hc
    have hb := ho.block b hlt (hs ⟨b, off, none⟩ e)
    rw [← hc]
    simp [World.cell?, hb]⟩

section
variable {H : Type} {enc : TypeId × Value → H} {w : World}
theorem open_nums_cs {fuel : Nat} {v : Value} {x : DataW H × List MemPlace} (h : DataW.trod enc Try.prog w 0 (fun _ => true) true fuel 30 [v] = some x) :
    ∃ (l : List Int) (ao : Option Addr) (cap : Nat), v = .slice ao l.length cap ∧ IntsIn w ao l := by
  rcases open_ints On.u_ints On.u_int (by kernel_rfl) h with ⟨hcs, _⟩ | ⟨a, len, cap, zs, hcs, _, hl, hm, hz, _, hcell, hwz⟩
  · simp at hcs
    subst hcs
    exact ⟨[], none, 0, rfl, by simp, by simp, fun i hi => absurd hi (by simp)⟩
  · simp at hcs
    subst hcs
    have hz' : zs.length = cap := by simpa using hz
    have hlen : (zs.take len).length = len := by rw [List.length_take]; omega
    refine ⟨zs.take len, some a, cap, by rw [hlen], fun y hy => hwz y (List.mem_of_mem_take hy), by rw [hlen]; omega, fun i hi => ?_⟩
    have hi' : i < len := by omega
    have hc := hcell i (by omega)
    have hc0 := hcell 0 (by omega)
    obtain ⟨b, off, spot⟩ := a
    have hspot : spot = none := by simpa [Addr.add] using World.cell?_spot hc0
    subst hspot
    refine ⟨b, off, rfl, ?_⟩
    have e : (zs.take len).getD i 0 = zs.getD i 0 := by simp [List.getD, List.getElem?_take, hi']
    rw [e, ← On.add_none]
    exact hc
theorem open_nums {v : Value} {d : DataW H} {p : List MemPlace} {r : Reach} {base : Nat} (_hv : Value.okWide Try.prog w r base 30 v) (h : DataW.Trod enc Try.prog w 0 (fun _ => true) true 30 v d p) :
    ∃ x : List Int × Option Addr × Nat, v = .slice x.2.1 x.1.length x.2.2 ∧ IntsIn w x.2.1 x.1 := by
  obtain ⟨a, len, cap, rfl⟩ := okWide_slice On.u_ints _hv
  obtain ⟨fuel, hf⟩ := h
  obtain ⟨l, ao, cap', e, hi⟩ := open_nums_cs (by simpa [Value.cells] using hf)
  exact ⟨⟨l, ao, cap'⟩, e, hi⟩
end
end Go.Proofs.Ytfmpmdkedpollaa
