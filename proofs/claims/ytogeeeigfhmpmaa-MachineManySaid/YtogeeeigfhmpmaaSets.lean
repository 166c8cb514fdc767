/- A struct is stored whole, cell by cell. -/
import Derived.Test.YtogeeeigfhmpmaaBase
namespace Go.Proofs.Ytogeeeigfhmpmaa
open Go.RowKit
def sets (w : World) (g : Nat) : Nat → List Value → World
  | _, [] => w
  | i, v :: r => sets (w.setCell ⟨g, i, none⟩ v) g (i + 1) r
theorem sets_go {t : TypeId} : ∀ (l : List Value) (pre : List Value) (cs : List Value) (w : World) (g : Nat), cs.length = l.length → Blk w g (pre ++ cs).toArray t → Blk (sets w g pre.length l) g (pre ++ l).toArray t
  | [], pre, cs, w, g, hl, h => by
    have : cs = [] := List.length_eq_zero_iff.1 hl
    subst this
    exact h
  | v :: r, pre, cs, w, g, hl, h => by
    cases cs with
    | nil => simp at hl
    | cons c cs =>
      have h1 := h.setCell pre.length v
      have e : (pre ++ c :: cs).toArray.setIfInBounds pre.length v = ((pre ++ [v]) ++ cs).toArray := by simp
      rw [e] at h1
      have h2 := sets_go r (pre ++ [v]) cs _ g (by simpa using hl) h1
      have e2 : (pre ++ [v]).length = pre.length + 1 := by simp
      rw [e2] at h2
      have e3 : (pre ++ [v]) ++ r = pre ++ v :: r := by simp
      rw [e3] at h2
      exact h2
theorem sets_blk {t : TypeId} {w : World} {g : Nat} {cs : Array Value} (h : Blk w g cs t) (l : List Value) (hl : cs.size = l.length) : Blk (sets w g 0 l) g l.toArray t := by
  have := sets_go l [] cs.toList w g (by simpa using hl) (by simpa using h)
  simpa using this
theorem sets_only {S : Nat → Prop} {w0 w : World} {g : Nat} (h : Only S w0 w) (hg : g < w0.heap.size → S g) : ∀ (l : List Value) (i : Nat), Only S w0 (sets w g i l)
  | l, i => by
    induction l generalizing w i with
    | nil => exact h
    | cons v r ih => exact ih (h.setCell (p := ⟨g, i, none⟩) hg v) (i + 1)
end Go.Proofs.Ytogeeeigfhmpmaa
