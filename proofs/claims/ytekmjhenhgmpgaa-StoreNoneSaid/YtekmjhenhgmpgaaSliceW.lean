/- Cutting a row: the operation xs[l:], xs[:h], xs[l:h] at elements of one cell, whether its room is used up or not. -/
import Derived.Test.YtekmjhenhgmpgaaBase
namespace Go.Proofs.Ytekmjhenhgmpgaa
open Go.RowKit

/-- where a cut row lies -/
def cutAddr (ao : Option Addr) (l cap s : Nat) : Option Addr := if cap = l then ao else ao.map (·.add (l * s))
theorem cutAddr_zero (ao : Option Addr) (cap s : Nat) : cutAddr ao 0 cap s = ao := by
  unfold cutAddr
  split
  · rfl
  · cases ao with
    | none => rfl
    | some a => simp only [Option.map_some, Nat.zero_mul]; obtain ⟨b, off, sp⟩ := a; cases sp <;> rfl

section
variable {P : Program} {ops : Array Oper} {rest : List Oper} {o : Oper} {a : Act} {Q : Exit → Act → World → Prop}
theorem wpList_slice_l (w : World) (hg : o.guard = none) (t : TypeId) (x l : Operand) (ho : o.op = .slice t x (some l) none none) (s : Nat)
    (ht : P.underlying t = some (.slice (P.elem t))) (hz : ∀ w, (sizeOf (P.elem t)).run P w = .ok s w)
    (ao : Option Addr) (n cap k : Nat) (kk : IntKind) (hx : a.eval x = .slice ao n cap) (hl : a.eval l = .int kk (k : Int)) (hk : k ≤ n)
    (h : wpList P ops Q rest (a.put o.dst (.slice (cutAddr ao k cap s) (n - k) (cap - k))) w) : wpList P ops Q (o :: rest) a w := by
  refine wpList_plain hg fun K hK => ?_
  have hrun := run_slice_l (P := P) (w := w) t ao n cap ht kk (k : Int) (by omega) (by omega)
  unfold Oper.wp
  simp only [execOp, ho, Sem.run_bind, Sem.run_pure, Option.map_some, Option.map_none, hx, hl, run_sliceAt_slice (w := w) t _ _ _ _ ht, hrun, hz, Result.andThen, Int.toNat_natCast]
  exact hK _ _ h
theorem wpList_slice_h (w : World) (hg : o.guard = none) (t : TypeId) (x u : Operand) (ho : o.op = .slice t x none (some u) none) (s : Nat)
    (ht : P.underlying t = some (.slice (P.elem t))) (hz : ∀ w, (sizeOf (P.elem t)).run P w = .ok s w)
    (ao : Option Addr) (n cap k : Nat) (kk : IntKind) (hx : a.eval x = .slice ao n cap) (hl : a.eval u = .int kk (k : Int)) (hk : k ≤ cap)
    (h : wpList P ops Q rest (a.put o.dst (.slice ao k cap)) w) : wpList P ops Q (o :: rest) a w := by
  refine wpList_plain hg fun K hK => ?_
  have hrun := run_slice_h (P := P) (w := w) t ao n cap ht kk (k : Int) (by omega) (by omega)
  unfold Oper.wp
  simp only [execOp, ho, Sem.run_bind, Sem.run_pure, Option.map_some, Option.map_none, hx, hl, run_sliceAt_slice (w := w) t _ _ _ _ ht, hrun, hz, Result.andThen]
  have e : sliced ao 0 k cap s = .slice ao k cap := by
    have := cutAddr_zero ao cap s
    unfold cutAddr at this
    unfold sliced
    rw [this, Nat.sub_zero, Nat.sub_zero]
  simp only [Int.toNat_natCast, e]
  exact hK _ _ h
theorem wpList_slice_lh (w : World) (hg : o.guard = none) (t : TypeId) (x l u : Operand) (ho : o.op = .slice t x (some l) (some u) none) (s : Nat)
    (ht : P.underlying t = some (.slice (P.elem t))) (hz : ∀ w, (sizeOf (P.elem t)).run P w = .ok s w)
    (ao : Option Addr) (n cap k m : Nat) (kk km : IntKind) (hx : a.eval x = .slice ao n cap) (hl : a.eval l = .int kk (k : Int)) (hu : a.eval u = .int km (m : Int)) (hk : k ≤ m) (hm : m ≤ cap)
    (h : wpList P ops Q rest (a.put o.dst (.slice (cutAddr ao k cap s) (m - k) (cap - k))) w) : wpList P ops Q (o :: rest) a w := by
  refine wpList_plain hg fun K hK => ?_
  have hrun := run_slice_lh (P := P) (w := w) t ao n cap ht kk km (k : Int) (m : Int) (by omega) (by omega) (by omega)
  unfold Oper.wp
  simp only [execOp, ho, Sem.run_bind, Sem.run_pure, Option.map_some, Option.map_none, hx, hl, hu, run_sliceAt_slice (w := w) t _ _ _ _ ht, hrun, hz, Result.andThen, Int.toNat_natCast]
  exact hK _ _ h
end
end Go.Proofs.Ytekmjhenhgmpgaa
