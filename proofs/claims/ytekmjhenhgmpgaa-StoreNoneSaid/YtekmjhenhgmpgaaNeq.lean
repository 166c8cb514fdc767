/- Two votes compared. -/
import Derived.Test.YtekmjhenhgmpgaaSaveM
namespace Go.Proofs.Ytekmjhenhgmpgaa
open Go.RowKit
set_option maxRecDepth 100000
section
variable {ops : Array Oper} {rest : List Oper} {o : Oper} {a : Act} {Q : Exit → Act → World → Prop}
theorem run_neq_hard (w : World) (a1 b1 : Nat) (a2 b2 : Int) : (Go.binOp .neq 37 (.agg #[.int .u64 a1, .int .i64 a2]) (.agg #[.int .u64 b1, .int .i64 b2])).run Try.prog w = .ok (.bool !(decide (a1 = b1 ∧ a2 = b2))) w := by
  by_cases h1 : a1 = b1
  · by_cases h2 : a2 = b2
    · subst h1; subst h2
      go_simp
    · subst h1
      go_simp
  · by_cases h2 : a2 = b2
    · subst h2
      go_simp
      omega
    · go_simp
theorem wpList_neq_hard (w : World) (hgd : o.guard = none) (x y : Operand) (ho : o.op = .binOp .neq 37 x y 37) (a1 b1 : Nat) (a2 b2 : Int)
    (hx : a.eval x = .agg #[.int .u64 a1, .int .i64 a2]) (hy : a.eval y = .agg #[.int .u64 b1, .int .i64 b2])
    (h : wpList Try.prog ops Q rest (a.put o.dst (.bool !(decide (a1 = b1 ∧ a2 = b2)))) w) : wpList Try.prog ops Q (o :: rest) a w := by
  refine wpList_plain hgd fun K hK => ?_
  unfold Oper.wp execOp
  simp only [ho, hx, hy]
  have hg : (eqGuard .neq 37 x y (Value.agg #[Value.int IntKind.u64 ↑a1, Value.int IntKind.i64 a2]) (Value.agg #[Value.int IntKind.u64 ↑b1, Value.int IntKind.i64 b2])).run Try.prog w = .ok () w := by go_simp
  simp only [Sem.run_bind, hg, Result.andThen_ok, run_neq_hard, Sem.run_pure]
  exact hK _ _ h
end
end Go.Proofs.Ytekmjhenhgmpgaa
