/- What records make of a state, one behind the other. -/
import Derived.Test.YtekmjhenhgmpgaaStoreS
namespace Go.Proofs.Ytekmjhenhgmpgaa
open Go.RowKit

namespace Sto
def said : St → List ByteArray → Option St
  | s, [] => some s
  | s, b :: l => match take s b with
    | none => none
    | some s' => said s' l
def first (members : Nat) : St := ⟨⟨0, -1⟩, ⟨0, 0, members, ByteArray.empty⟩, []⟩
theorem cutOff_len (x : Nat) (l : List Ent) : (cutOff x l).length ≤ l.length := by
  unfold cutOff
  exact List.Sublist.length_le (List.takeWhile_sublist _)
theorem take_len {s s' : St} {b : ByteArray} (h : take s b = some s') : s'.es.length ≤ s.es.length + 1 := by
  unfold take takeK at h
  have hc := cutOff_len (Pk.numV (r0 b).s) s.es
  repeat' split at h
  all_goals first
    | cases h; done
    | (cases h; simp; done)
    | (cases h; simp only [List.length_append, List.length_singleton]; omega)
    | (cases h; simp only []; omega)
theorem said_snoc : ∀ (l : List ByteArray) (s : St) (b : ByteArray), said s (l ++ [b]) = (said s l).bind fun s' => take s' b
  | [], s, b => by
    show (match take s b with | none => none | some s' => said s' []) = _
    cases h : take s b <;> simp [said, h]
  | c :: l, s, b => by
    rw [List.cons_append]
    unfold said
    cases h : take s c with
    | none => rfl
    | some s' => exact said_snoc l s' b
theorem said_len : ∀ (l : List ByteArray) (s s' : St), said s l = some s' → s'.es.length ≤ s.es.length + l.length
  | [], s, s', h => by cases h; simp
  | c :: l, s, s', h => by
    unfold said at h
    cases hc : take s c with
    | none => rw [hc] at h; cases h
    | some s1 =>
      rw [hc] at h
      have h1 := take_len hc
      have h2 := said_len l s1 s' h
      rw [List.length_cons]
      omega
/-- records of which the first ones say nothing -/
theorem said_none : ∀ (l : List ByteArray) (k : Nat) (s : St), said s (l.take k) = none → said s l = none
  | [], k, s, h => by rwa [List.take_nil] at h
  | c :: l, 0, s, h => by rw [List.take_zero] at h; cases h
  | c :: l, k + 1, s, h => by
    rw [List.take_succ_cons] at h
    unfold said at h ⊢
    cases hc : take s c with
    | none => rfl
    | some s1 =>
      rw [hc] at h
      exact said_none l k s1 h
end Sto
end Go.Proofs.Ytekmjhenhgmpgaa
