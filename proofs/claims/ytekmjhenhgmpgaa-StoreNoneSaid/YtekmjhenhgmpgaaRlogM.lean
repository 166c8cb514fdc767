/- A node's log in plain data: which entries may lie where, and which logs there may be. -/
import Derived.Test.YtekmjhenhgmpgaaPackM
import Derived.Test.YtekmjhenhgmpgaaEnts
import Derived.Test.YtekmjhenhgmpgaaRecs
import Derived.Test.YtekmjhenhgmpgaaQuorum
namespace Go.Proofs.Ytekmjhenhgmpgaa
open Go.RowKit

namespace Rl
/-- the members that an entry's data says, and whether it says any -/
def cfgV (d : ByteArray) : Nat := Pk.numV (nums d)
def cfgB (d : ByteArray) : Bool := (Pk.numR ⟨nums d, false⟩).done && Qu.soundB (cfgV d)
/-- may an entry lie at an index, behind one of a term? -/
def plainOk (e : Ent) (index term : Nat) : Bool := decide (index ≠ 0 ∧ e.index = index ∧ term ≤ e.term ∧ 0 ≤ e.kind ∧ e.kind ≤ 2 ∧ e.data.size ≤ 32768)
def sound (e : Ent) (index term : Nat) : Bool := plainOk e index term && (decide (e.kind ≠ 2) || cfgB e.data)
def next (i : Nat) : Nat := (i + 1) % 18446744073709551616
def chain : Nat → Nat → List Ent → Bool
  | _, _, [] => true
  | i, t, e :: r => sound e (next i) t && chain e.index e.term r
def newOk (s : Snp) (l : List Ent) : Bool := Qu.soundB s.config && chain s.index s.term l
/-- the last index and term behind some entries -/
def lastI (s : Snp) (l : List Ent) : Nat := match l.getLast? with | none => s.index | some e => e.index
def lastT (s : Snp) (l : List Ent) : Nat := match l.getLast? with | none => s.term | some e => e.term
theorem chain_at : ∀ (l : List Ent) (i t : Nat) (k : Nat), k < l.length → chain i t l = true → sound (l.getD k Ent.zero) (next (match (l.take k).getLast? with | none => i | some e => e.index)) (match (l.take k).getLast? with | none => t | some e => e.term) = true
  | [], _, _, _, h, _ => by simp at h
  | e :: r, i, t, 0, _, h => by
    unfold chain at h
    rw [Bool.and_eq_true] at h
    simpa using h.1
  | e :: r, i, t, k + 1, hk, h => by
    unfold chain at h
    rw [Bool.and_eq_true] at h
    have := chain_at r e.index e.term k (by simpa using hk) h.2
    rw [List.getD_cons_succ, List.take_succ_cons]
    cases hg : (r.take k).getLast? with
    | none =>
      rw [hg] at this
      have hn : r.take k = [] := by simpa using hg
      rw [hn]
      simpa using this
    | some x =>
      rw [hg] at this
      have : (e :: r.take k).getLast? = some x := by
        rw [List.getLast?_cons, hg]; rfl
      rw [this]
      assumption
theorem chain_snoc : ∀ (l : List Ent) (e : Ent) (i t : Nat), chain i t (l ++ [e]) = (chain i t l && sound e (next (match l.getLast? with | none => i | some x => x.index)) (match l.getLast? with | none => t | some x => x.term))
  | [], e, i, t => by simp [chain]
  | x :: r, e, i, t => by
    rw [List.cons_append]
    unfold chain
    rw [chain_snoc r e x.index x.term, Bool.and_assoc]
    congr 1
    cases hg : r.getLast? with
    | none =>
      have hn : r = [] := by simpa using hg
      subst hn
      rfl
    | some y =>
      have : (x :: r).getLast? = some y := by rw [List.getLast?_cons, hg]; rfl
      rw [this]
end Rl
end Go.Proofs.Ytekmjhenhgmpgaa
