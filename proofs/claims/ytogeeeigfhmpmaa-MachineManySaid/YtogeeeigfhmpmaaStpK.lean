/- Rows of steps, as a kind of rows. -/
import Derived.Test.YtogeeeigfhmpmaaRowk
import Derived.Test.YtogeeeigfhmpmaaCheck
namespace Go.Proofs.Ytogeeeigfhmpmaa
open Go.RowKit

def stpK : RowK Pk.Stp := ⟨fun t => [.int .i64 t.part, .string (textOf t.name), .int .i64 t.budget], 3, ⟨0, [], 0⟩, by decide, fun _ => rfl, by
  intro x u hu
  simp at hu
  rcases hu with rfl | rfl | rfl <;> rfl⟩
theorem stpT : RowT Try.prog stpK 38 29 (.agg #[.int .i64 0, .string ByteArray.empty, .int .i64 0]) 32 := ⟨by kernel_rfl, by kernel_rfl, rfl, by decide⟩
/-- steps as they can be read -/
structure SmallS (t : Pk.Stp) : Prop where
  part : t.part ≤ 3
  name : t.name.length ≤ 16
  budget : t.budget ≤ 9
theorem okS_small {t : Pk.Stp} (h : Pk.okS t = true) : SmallS t := by
  unfold Pk.okS at h
  simp only [Bool.and_eq_true, decide_eq_true_eq] at h
  exact ⟨by omega, by omega, by omega⟩
def Smalls (l : List Pk.Stp) : Prop := l.length ≤ 64 ∧ ∀ t ∈ l, SmallS t
theorem okSs_small {l : List Pk.Stp} (h : Pk.okSs l = true) : Smalls l := by
  unfold Pk.okSs at h
  simp only [Bool.and_eq_true, decide_eq_true_eq, List.all_eq_true] at h
  exact ⟨h.1.2, fun t ht => okS_small (h.2 t ht)⟩
theorem rdS_small (r : Pk.RD) : SmallS (Pk.rdS r).1 := by
  refine ⟨Pk.up_fst, ?_, Pk.up_fst⟩
  show ((r.up 3).2.text 16).1.length ≤ 16
  unfold Pk.RD.text
  simp only
  split
  · rw [List.length_take]; have := Pk.up_fst (r := (r.up 3).2) (m := 16); omega
  · simp
theorem rdSn_small : ∀ (n : Nat) (r : Pk.RD), ∀ t ∈ (Pk.rdSn n r).1, SmallS t
  | 0, _, t, h => by cases h
  | n + 1, r, t, h => by
    unfold Pk.rdSn at h
    simp only at h
    rcases List.mem_cons.1 h with h | h
    · rw [h]; exact rdS_small r
    · exact rdSn_small n _ t h
theorem rdSs_small (r : Pk.RD) : Smalls (Pk.rdSs r).1 := by
  unfold Pk.rdSs
  simp only
  split
  · exact ⟨by simp, by simp⟩
  · exact ⟨by rw [Pk.rdSn_len]; exact Pk.up_fst, rdSn_small _ _⟩
theorem RowIn.steps {w : World} {ao : Option Addr} {l : List Pk.Stp} (h : RowIn stpK 38 w ao l) (hs : Smalls l) : StepsIn w ao (l.map StD.of) := by
  refine ⟨by rw [List.length_map]; have := hs.1; unfold maxLen; omega, fun i hi => ?_⟩
  rw [List.length_map] at hi
  obtain ⟨b, off, e, hc⟩ := h.cell i hi
  refine ⟨b, off, e, ?_⟩
  have hg : l.getD i stpK.zero = l[i] := by rw [List.getD_eq_getElem?_getD, List.getElem?_eq_getElem hi]; rfl
  rw [List.getElem_map]
  rw [hg] at hc
  have hn := (hs.2 _ (List.getElem_mem hi)).name
  exact ⟨hc 0 (by decide), hc 1 (by decide), hc 2 (by decide), by show (textOf l[i].name).size ≤ maxLen; rw [textOf_size]; unfold maxLen; omega⟩
theorem checkD_of (l : List Pk.Stp) : checkD (l.map StD.of) = if Pk.okSs l = true then 0 else 44 := by
  unfold checkD Pk.okSs
  rw [List.length_map, List.all_map]
  have : (StD.ok ∘ StD.of) = Pk.okS := by funext t; exact StD.ok_of t
  rw [this]
  by_cases h : 1 ≤ l.length ∧ l.length ≤ 64 ∧ l.all Pk.okS = true
  · rw [if_pos h, if_pos (by simp [h.1, h.2.1, h.2.2])]
  · rw [if_neg h, if_neg (fun h2 => h (by simp only [Bool.and_eq_true, decide_eq_true_eq] at h2; exact ⟨h2.1.1, h2.1.2, h2.2⟩))]
/-- plan.Check of a row of steps -/
theorem checkS_at (w : World) (ao : Option Addr) (cap : Nat) (l : List Pk.Stp) (h : RowIn stpK 38 w ao l) (hs : Smalls l) :
    Calls Try.prog 77 #[.slice ao l.length cap] w fun e w' => e = .returned (.int .i64 (if Pk.okSs l = true then 0 else 44)) ∧ Only NoBlock w w' := by
  have := check_at w ao cap (l.map StD.of) (h.steps hs)
  rw [List.length_map, checkD_of] at this
  exact this
end Go.Proofs.Ytogeeeigfhmpmaa
