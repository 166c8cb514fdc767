/- Two timers: what the laws begin with. -/
import Derived.Test.YtklpdkojffaiiaaWheelC
namespace Go.Proofs.Ytklpdkojffaiiaa
open Go.RowKit Go.Shelf
set_option maxRecDepth 100000

namespace Wh
theorem b1 : setA [] 0 0 1 2 = ([⟨1, 2, 1⟩], 0, 1) := by rfl
theorem b2 : setA [⟨1, 2, 1⟩] 0 1 2 1 = ([⟨1, 2, 1⟩, ⟨2, 1, 2⟩], 0, 2) := by rfl
theorem b3 : dueA [⟨1, 2, 1⟩, ⟨2, 1, 2⟩] 1 = [⟨2, 1, 2⟩] := by rfl
theorem b4 : restA [⟨1, 2, 1⟩, ⟨2, 1, 2⟩] 1 = [⟨1, 2, 1⟩] := by rfl
theorem b5 : dueA [⟨1, 2, 1⟩] 2 = [⟨1, 2, 1⟩] := by rfl
theorem b6 : restA [⟨1, 2, 1⟩] 2 = [] := by rfl
end Wh
set_option maxHeartbeats 4000000 in
theorem begun9_ok (w : World) : Calls Try.prog 9 #[] w fun e w' => e = .returned (.bool true) ∧ Only NoBlock w w' := by
  go_enter Try.func9, Try.ntmps9
  go_wp2_with fail
  refine (new_i w).mono ?_
  rintro e w1 ⟨p, rfl, h1, o1⟩
  have low : w.heap.size ≤ w.heap.size := Nat.le_refl _
  go_wp2_with fail
  refine (set_i w1 _ p 0 _ [] 0 h1 1 2 (by decide) (by decide) (by decide)).mono ?_
  rintro e w2 ⟨rfl, h2, o2⟩
  rw [Wh.b1] at h2 ⊢
  simp only at h2 ⊢
  go_wp2_with fail
  refine (set_i w2 _ p 0 _ _ 1 h2 2 1 (by decide) (by decide) (by decide)).mono ?_
  rintro e w3 ⟨rfl, h3, o3⟩
  rw [Wh.b2] at h3 ⊢
  simp only at h3 ⊢
  go_wp2_with fail
  refine (tick_i w3 _ p 0 _ _ 2 h3 (by decide)).mono ?_
  rintro e w4 ⟨v1, rfl, i4, h4, o4⟩
  rw [Nat.zero_add, Wh.b3] at i4
  rw [Nat.zero_add, Wh.b4] at h4
  go_wp2_with fail
  refine (tick_i w4 _ p 1 _ _ 2 h4 (by decide)).mono ?_
  rintro e w5 ⟨v2, rfl, i5, h5, o5⟩
  have i6 := i4.keeps' o5 (fun k e h => h.2 (.inr e))
  rw [show 1 + 1 = 2 from rfl, Wh.b5] at i5
  rw [show 1 + 1 = 2 from rfl, Wh.b6] at h5
  obtain ⟨a1, c1, rfl, g1⟩ := i6.first
  obtain ⟨a2, c2, rfl, g2⟩ := i5.first
  obtain ⟨b1, f1, rfl, k1⟩ := g1 2 [] rfl
  obtain ⟨b2, f2, rfl, k2⟩ := g2 1 [] rfl
  clear g1 g2 i4 i5 i6
  simp only [List.map_cons, List.map_nil, List.length_cons, List.length_nil, Nat.zero_add]
  go_wp2_with fail
  refine (len_i w5 _ p 2 _ _ 2 h5).mono ?_
  rintro e w6 ⟨rfl, rfl⟩
  simp only [List.length_nil]
  go_wp2_with fail
  go_ret
  have hz1 := o1.size
  exact ⟨rfl, (((o1.andThen o2 (fun i hi e => by have := e.1; omega)).andThen o3 (fun i hi e => by have := e.1; omega)).andThen o4 (fun i hi e => by have := e.1; omega)).andThen o5 (fun i hi e => by have := e.1; omega)⟩
end Go.Proofs.Ytklpdkojffaiiaa
