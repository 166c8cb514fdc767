/- A region that draws its order, inside a round of a range over a function. -/
import Derived.Test.YtklpdkojffaiiaaRangeL
import Derived.Deep.RegionLaw
import Derived.Deep.RegionHeld3
namespace Go.Proofs.Ytklpdkojffaiiaa
open Go.RowKit Go.Shelf

section
variable {P : Program} {ops : Array Oper} {Q : Exit → Act → World → Prop} {l n : Nat}
theorem round_op (_hL : ¬ LetsOut Q) {o : Oper} {a : Act} {w : World} {K K' : Act → World → Prop} (hd : ∀ c, o.op ≠ .defer c) (hk : ∀ a w, K a w → K' a w) (h : o.wp P a w K Q) : o.wpIn (Fence.wide.inRound l) n P a w K' Q := by
  unfold Oper.wpIn
  refine ⟨fun f _ => trivial, ?_⟩
  rw [show (Fence.wide.inRound l).round = some l from rfl, Oper.semAt_some l _ _ hd]
  unfold Oper.wp at h
  generalize (execOp a.eval o).run P w = r at h
  cases r with
  | ok x w' =>
    cases x with
    | value v => exact hk _ _ h
    | skip => exact hk _ _ h
    | defer d => exact hk _ _ h
    | enter f args =>
      refine ⟨fun h => (by cases h), ?_⟩
      refine (callsIn_wide.2 h).inRound l |>.mono ?_
      intro e w'' he
      cases e with
      | returned v => exact hk _ _ he
      | panicked ch => exact he
      | outgrown => exact he
    | row row args =>
      refine ⟨fun h => (by cases h), ?_⟩
      intro c cs _
      obtain ⟨v, w2, hv, hs⟩ := h c cs
      exact ⟨v, w2, hk _ _ hv, stepsIn_wide.2 hs⟩
    | _ => exact h.elim
  | halt x w' => cases x <;> first | exact h | exact False.elim h
theorem round_ops (hL : ¬ LetsOut Q) (hd : ∀ (i : Nat) (o : Oper), ops[i]? = some o → ∀ c, o.op ≠ .defer c) : ∀ (r : List Nat) (a : Act) (w : World), wpOps P ops Q r a w → wpOpsIn (Fence.wide.inRound l) n P ops Q r a w
  | [], _, _, h => h
  | i :: rest, a, w, h => by
    unfold wpOps at h
    unfold wpOpsIn
    cases ho : ops[i]? with
    | none => simp only [ho] at h; exact round_ops hL hd rest a w h
    | some o =>
      simp only [ho] at h ⊢
      split
      · rename_i hw
        rw [if_pos hw] at h
        rcases h with h | h
        · exact round_op hL (hd i o ho) (round_ops hL hd rest) h
        · exact (hL h.2).elim
      · rename_i hw
        rw [if_neg hw] at h
        exact ⟨fun f _ => trivial, round_ops hL hd rest _ _ h⟩
/-- only the plain way out -/
def Plainly (Q : Exit → Act → World → Prop) : Exit → Act → World → Prop := fun e a w => e = .normal ∧ Q .normal a w
theorem Plainly.no {c : List PanicEntry} {a : Act} {w : World} {R : Prop} (h : Plainly Q (.panic c) a w) : R := by cases h.1
theorem round_held {id : Nat} {S : World → Prop} {a : Act} {w : World} (hm : P.follows .mixedOrders = true) (hd : ops.toList.all (fun o => match o.op with | .defer _ => false | _ => true) = true) (hS : S w.drew)
    (h : S w.drew → wpAnyH P .any ops (Plainly Q) S ops.size (Array.replicate ops.size false) a w.drew) : (Code.region id ops true).wpIn (Fence.wide.inRound l) n P Q a w := by
  refine Go.wpIn_mono (Q := Plainly Q) ?_ (fun e a w he => by obtain ⟨rfl, hq⟩ := he; exact hq)
  refine wpIn_region_draw fun t => ?_
  refine round_ops (Q := Plainly Q) (by rintro ⟨a, w, he, _⟩; cases he) (fun i o ho c e => ?_) _ _ _ ?_
  · have := List.all_eq_true.1 hd o (by have := Array.mem_of_getElem? ho; simpa using this)
    rw [e] at this
    cases this
  · simp only [Region.schedule, hm, Bool.true_or, if_true]
    exact wpAny_sound ops.size t _ a _ (wpAny_of_held _ _ _ _ (h hS))
end
end Go.Proofs.Ytklpdkojffaiiaa
