/- machine.New: with nothing in it. -/
import Derived.Test.YtogeeeigfhmpmaaApply
namespace Go.Proofs.Ytogeeeigfhmpmaa
open Go.RowKit
set_option maxRecDepth 100000

theorem Blk.made' (w : World) (n : Nat) (hn : n = w.heap.size) (cs : Array Value) (t : TypeId) : Blk (w.alloc (.cells cs t)) n cs t := by subst hn; exact Blk.made w cs t
theorem mnew_at (w : World) :
    Calls Try.prog 8 #[] w fun e w' => ∃ p tb mb, e = .returned (.pointer (some ⟨p, 0, none⟩)) ∧ MachAt w' p tb mb (.slice none 0 0) Mc.Mach.new ∧ Only NoBlock w w' ∧ w.heap.size ≤ p ∧ w.heap.size ≤ tb ∧ w.heap.size ≤ mb ∧ p < w'.heap.size := by
  have hmm := @run_makeMap Try.prog
  go_enter Try.func8, Try.ntmps8
  go_wp2_with fail
  refine (tnew_at w).mono ?_
  rintro e w1 ⟨rfl, hT, hO, hz⟩
  generalize hte : w.heap.size = tb at hT hz ⊢
  have htl := hT.blk.lt
  have hw1 : tb + 1 ≤ w1.heap.size := by omega
  clear hz
  go_wp2_with fail
  go_ret
  have hO1 := (Only.refl NoBlock w1).alloc (.map #[] 0)
  have hO2 := hO1.alloc (.cells #[.pointer (some ⟨tb, 0, none⟩), .map (some w1.heap.size)] 72)
  have hm := SgsAt.made w1
  have hB := Blk.made' (w1.alloc (.map #[] 0)) (w1.heap.size + 1) (by simp) #[.pointer (some ⟨tb, 0, none⟩), .map (some w1.heap.size)] 72
  refine ⟨_, tb, w1.heap.size, rfl, ⟨hB, hT.keepsN hO2, hm.keepsN ((Only.refl NoBlock _).alloc _)⟩, hO.trans hO2, by omega, by omega, by omega, by simp⟩
end Go.Proofs.Ytogeeeigfhmpmaa
