/- Arguments as the walks take them: arrays of unsigned numbers. -/
import Derived.Test.YtlkonimjeoaljaaDoorU64
import Derived.ProofKit
import Derived.OpenShut
import Derived.Deep.Slices
import Derived.Deep.Fields
import Derived.ChangeSame
namespace Go.Proofs.YtlkonimjeoaljaaDoor
open Go.RowKit Go.Maps Go.ChangeShapes Go.WideShapes Go.Deep

namespace O6
theorem u_u64 : Tryd.prog.underlying 22 = some (.int .u64) := by kernel_rfl
theorem c_u64 : Tryd.prog.cellsOf 22 = 1 := by kernel_rfl
theorem u_3 : Tryd.prog.underlying 27 = some (.array 3 22) := by kernel_rfl
theorem c_3 : Tryd.prog.cellsOf 27 = 3 := by kernel_rfl
theorem u_8 : Tryd.prog.underlying 34 = some (.array 8 22) := by kernel_rfl
theorem c_8 : Tryd.prog.cellsOf 34 = 8 := by kernel_rfl
theorem choose_list {α : Type} {P : Nat → α → Prop} : ∀ n, (∀ i, i < n → ∃ c, P i c) → ∃ l : List α, l.length = n ∧ ∀ i (h : i < l.length), P i l[i]
  | 0, _ => ⟨[], rfl, fun i h => absurd h (by simp)⟩
  | n + 1, h => by
    obtain ⟨l, hl, hp⟩ := choose_list n (fun i hi => h i (by omega))
    obtain ⟨c, hc⟩ := h n (by omega)
    refine ⟨l ++ [c], by simp [hl], fun i hi => ?_⟩
    by_cases e : i < n
    · rw [List.getElem_append_left (by omega)]; exact hp i (by omega)
    · have : i = n := by simp at hi; omega
      subst this
      rw [List.getElem_append_right (by omega)]
      simp [hl, hc]
end O6

section
variable {H : Type} {enc : TypeId × Value → H} {w : World}
theorem open_u64arr {n : Nat} {t : TypeId} (ht : Tryd.prog.underlying t = some (.array n 22)) (hct : Tryd.prog.cellsOf t = n) {v : Value} {d : DataW H} {p : List MemPlace} {r : Reach} {base : Nat} (hv : Value.okWide Tryd.prog w r base t v) (h : DataW.Trod enc Tryd.prog w 0 (fun _ => true) true t v d p) :
    ∃ l : List Int, v = .agg (l.map (Value.int .u64)).toArray ∧ l.length = n ∧ ∀ x ∈ l, (Lit.int .u64 x).wf = true := by
  unfold Value.okWide at hv
  rw [ht] at hv
  obtain ⟨cs, rfl, hsz, _⟩ := hv
  rw [hct] at hsz
  obtain ⟨fuel, hf⟩ := h
  obtain ⟨xs, m, rfl, _, hl, hxl, hat⟩ := DataW.trod_array ht hf
  have hcl : (Value.agg cs).cells.toList = cs.toList := rfl
  rw [hcl, O6.c_u64] at hat
  have hlen : cs.toList.length = n := by rw [Array.length_toList]; exact hsz
  have hall : ∀ i, i < n → ∃ z : Int, cs.toList[i]? = some (.int .u64 z) ∧ (Lit.int .u64 z).wf = true := by
    intro i hi
    have h0 := hat i hi
    rw [Nat.mul_one, List.drop_eq_getElem_cons (by omega : i < cs.toList.length), List.take_succ_cons, List.take_zero, List.getElem?_eq_getElem (by omega)] at h0
    obtain ⟨z, e, _, hw⟩ := DataW.trod_int O6.u_u64 h0
    refine ⟨z, ?_, hw⟩
    rw [List.getElem?_eq_getElem (by omega)]
    simp only [List.cons.injEq, and_true] at e
    rw [e]
  obtain ⟨L, hL, hP⟩ := O6.choose_list n hall
  refine ⟨L, ?_, hL, fun x hx => ?_⟩
  · congr 1
    apply Array.ext'
    show cs.toList = L.map (Value.int .u64)
    apply List.ext_getElem?
    intro i
    by_cases hi : i < L.length
    · rw [(hP i hi).1, List.getElem?_map, List.getElem?_eq_getElem hi]
      rfl
    · rw [List.getElem?_eq_none (by omega), List.getElem?_eq_none (by rw [List.length_map]; omega)]
  · obtain ⟨i, hi, rfl⟩ := List.mem_iff_getElem.1 hx
    exact (hP i hi).2
theorem wf_nat {x : Int} (h : (Lit.int .u64 x).wf = true) : ∃ n : Nat, x = (n : Int) ∧ n < 2 ^ 64 := by
  have h1 : (IntKind.u64).min = 0 := by decide
  have h2 : (IntKind.u64).max = 18446744073709551615 := by decide
  have e : (Lit.int .u64 x).wf = (decide ((IntKind.u64).min ≤ x) && decide (x ≤ (IntKind.u64).max)) := rfl
  rw [e, h1, h2] at h
  simp at h
  exact ⟨x.toNat, by omega, by omega⟩
theorem open_three {v : Value} {d : DataW H} {p : List MemPlace} {r : Reach} {base : Nat} (hv : Value.okWide Tryd.prog w r base 27 v) (h : DataW.Trod enc Tryd.prog w 0 (fun _ => true) true 27 v d p) :
    ∃ x : Nat × Nat × Nat, v = .agg #[.int .u64 x.1, .int .u64 x.2.1, .int .u64 x.2.2] ∧ x.1 < 2 ^ 64 ∧ x.2.1 < 2 ^ 64 ∧ x.2.2 < 2 ^ 64 := by
  obtain ⟨l, rfl, hl, hw⟩ := open_u64arr O6.u_3 O6.c_3 hv h
  obtain ⟨a, b, c, rfl⟩ : ∃ a b c, l = [a, b, c] := by
    match l, hl with
    | [a, b, c], _ => exact ⟨a, b, c, rfl⟩
  obtain ⟨x, rfl, hx⟩ := wf_nat (hw a (by simp))
  obtain ⟨y, rfl, hy⟩ := wf_nat (hw b (by simp))
  obtain ⟨z, rfl, hz⟩ := wf_nat (hw c (by simp))
  exact ⟨⟨x, y, z⟩, rfl, hx, hy, hz⟩
theorem open_eight {v : Value} {d : DataW H} {p : List MemPlace} {r : Reach} {base : Nat} (hv : Value.okWide Tryd.prog w r base 34 v) (h : DataW.Trod enc Tryd.prog w 0 (fun _ => true) true 34 v d p) :
    ∃ x : List Int × Int, v = .agg ((x.1 ++ [x.2]).map (Value.int .u64)).toArray ∧ x.1.length = 7 ∧ (∀ y ∈ x.1, (Lit.int .u64 y).wf = true) ∧ (Lit.int .u64 x.2).wf = true := by
  obtain ⟨l, rfl, hl, hw⟩ := open_u64arr O6.u_8 O6.c_8 hv h
  obtain ⟨a0, a1, a2, a3, a4, a5, a6, a7, rfl⟩ : ∃ a0 a1 a2 a3 a4 a5 a6 a7, l = [a0, a1, a2, a3, a4, a5, a6, a7] := by
    match l, hl with
    | [a0, a1, a2, a3, a4, a5, a6, a7], _ => exact ⟨a0, a1, a2, a3, a4, a5, a6, a7, rfl⟩
  exact ⟨⟨[a0, a1, a2, a3, a4, a5, a6], a7⟩, rfl, rfl, fun y hy => hw y (by simp only [List.mem_cons] at hy ⊢; grind), hw a7 (by simp)⟩
end

end Go.Proofs.YtlkonimjeoaljaaDoor
