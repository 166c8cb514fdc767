/- What the laws of the wheel share. -/
import Derived.Test.YtklpdkojffaiiaaBegun9
namespace Go.Proofs.Ytklpdkojffaiiaa
open Go.RowKit
theorem Only.fresh {a b c : World} {B : Nat} {X : Nat → Prop} (h : Only NoBlock a b) (k : Only (fun k => B ≤ k ∧ ¬ X k) b c) (hB : a.heap.size ≤ B) : Only NoBlock a c :=
  h.andThen k (fun i hi e => by have := e.1; omega)
namespace Wh
theorem wf_nat {n : Nat} (h : n < 1000000) : (Lit.int .i64 (n : Int)).wf = true := wf_i64 (by omega) (by omega)
theorem setA_new {A : List Tm} {now : Nat} {turn id d : Int} (hd : 1 ≤ d ∧ d ≤ 1048576) (h : hasA A id = false) (hz : A.length ≠ 64) : setA A now turn id d = (A ++ [⟨id, now + d.toNat, turn + 1⟩], 0, turn + 1) := by
  unfold setA; rw [if_pos hd, if_neg (by omega), dropA_none h]
theorem setA_full {A : List Tm} {now : Nat} {turn id d : Int} (hd : 1 ≤ d ∧ d ≤ 1048576) (h : hasA A id = false) (hz : A.length = 64) : setA A now turn id d = (A, 11, turn) := by
  unfold setA; rw [if_pos hd, if_pos ⟨h, hz⟩]
theorem setA_had {A : List Tm} {now : Nat} {turn id d : Int} (hd : 1 ≤ d ∧ d ≤ 1048576) (h : hasA A id = true) : setA A now turn id d = (dropA A id ++ [⟨id, now + d.toNat, turn + 1⟩], 0, turn + 1) := by
  unfold setA; rw [if_pos hd, if_neg (by rw [h]; simp)]
theorem setA_bad {A : List Tm} {now : Nat} {turn id d : Int} (hd : ¬ (1 ≤ d ∧ d ≤ 1048576)) : setA A now turn id d = (A, 1, turn) := by
  unfold setA; rw [if_neg hd]
end Wh
end Go.Proofs.Ytklpdkojffaiiaa
