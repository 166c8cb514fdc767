/- Arguments as the walks take them: lists of lists of texts, and pairs of numbers. -/
import Derived.Test.YtfmpmdkedpollaaOpenT
namespace Go.Proofs.Ytfmpmdkedpollaa
open Go.RowKit Go.Maps Go.ChangeShapes Go.WideShapes Go.Deep

namespace Op
theorem u_rows : Try.prog.underlying 43 = some (.slice 23) := by kernel_rfl
theorem c_row : Try.prog.cellsOf 23 = 1 := by kernel_rfl
theorem u_pair : Try.prog.underlying 49 = some (.array 2 3) := by kernel_rfl
theorem c_pair : Try.prog.cellsOf 49 = 2 := by kernel_rfl
theorem choose_list {α : Type} {P : Nat → α → Prop} : ∀ n, (∀ i, i < n → ∃ c, P i c) → ∃ l : List α, l.length = n ∧ ∀ i (h : i < l.length), P i l[i]
  | 0, _ => ⟨[], rfl, fun i h => absurd h (by simp)⟩
  | n + 1, h => by
    obtain ⟨l, hl, hp⟩ := choose_list n (fun i hi => h i (by omega))
    obtain ⟨c, hc⟩ := h n (by omega)
    refine ⟨l ++ [c], by simp [hl], fun i hi => ?_⟩
    by_cases e : i < n
    · rw [List.getElem_append_left (by omega)]; exact hp i (by omega)
    · have : i = n := by simp at hi; omega
      subst this
      rw [List.getElem_append_right (by omega)]
      simp [hl, hc]
end Op

section
variable {H : Type} {enc : TypeId × Value → H} {w : World}
theorem open_rows {v : Value} {d : DataW H} {p : List MemPlace} {r : Reach} {base : Nat} (hv : Value.okWide Try.prog w r base 43 v) (h : DataW.Trod enc Try.prog w 0 (fun _ => true) true 43 v d p) (hs : ∀ n ∈ d.weights Try.prog 43, n ≤ reachBytes) :
    ∃ x : List (List ByteArray × Option Addr × Nat) × Option Addr × Nat, v = .slice x.2.1 x.1.length x.2.2 ∧ RowsIn w x.2.1 x.1 := by
  obtain ⟨a0, len0, cap0, rfl⟩ := okWide_slice Op.u_rows hv
  obtain ⟨fuel, hf⟩ := h
  have hf' : DataW.trod enc Try.prog w 0 (fun _ => true) true fuel 43 [.slice a0 len0 cap0] = some (d, p) := by simpa [Value.cells] using hf
  rcases open_slice1 Op.u_rows Op.c_row hf' with ⟨hcs, _⟩ | ⟨a, len, cap, m, n, V, D, Pl, hcs, hb, hl, hm, hmm, hx, hi⟩
  · simp at hcs
    obtain ⟨rfl, rfl, rfl⟩ := hcs
    exact ⟨⟨[], none, 0⟩, rfl, by simp, fun i hi => by simp at hi, fun i hi => by simp at hi⟩
  · simp only [List.cons.injEq, Value.slice.injEq, and_true] at hcs
    obtain ⟨rfl, rfl, rfl⟩ := hcs
    simp only [if_true] at hmm
    subst hmm
    simp only [Prod.mk.injEq] at hx
    obtain ⟨rfl, _⟩ := hx
    simp only [DataW.weights, Op.u_rows] at hs
    have hin : ∀ i, i < len0 → ∃ c : List ByteArray × Option Addr × Nat, V i = .slice c.2.1 c.1.length c.2.2 ∧ TextsIn w c.2.1 c.1 := by
      intro i hil
      obtain ⟨_, ht⟩ := hi i (by omega)
      obtain ⟨l, ao, c, e, h1, _⟩ := open_texts_cs ht (fun n hn => hs n (List.mem_cons_of_mem _ (List.mem_append_left _ (Op.weights_all (List.mem_map.2 ⟨i, List.mem_range.2 hil, rfl⟩) hn))))
      exact ⟨⟨l, ao, c⟩, e, h1⟩
    obtain ⟨L, hL, hP⟩ := Op.choose_list len0 hin
    refine ⟨⟨L, some a, m⟩, by rw [hL], by rw [hL]; omega, fun i hiL => ?_, fun i hiL => ?_⟩
    all_goals replace hiL : i < L.length := hiL
    · obtain ⟨hc, _⟩ := hi i (by omega)
      obtain ⟨hc0, _⟩ := hi 0 (by omega)
      obtain ⟨b, off, spot⟩ := a
      have hspot : spot = none := by simpa [Addr.add] using World.cell?_spot hc0
      subst hspot
      refine ⟨b, off, rfl, ?_⟩
      rw [← Op.add_none, hc, List.getD_eq_getElem?_getD, List.getElem?_eq_getElem hiL, Option.getD_some, (hP i hiL).1]
    · rw [List.getD_eq_getElem?_getD, List.getElem?_eq_getElem hiL, Option.getD_some]
      exact (hP i hiL).2

theorem open_pair {v : Value} {d : DataW H} {p : List MemPlace} {r : Reach} {base : Nat} (hv : Value.okWide Try.prog w r base 49 v) (h : DataW.Trod enc Try.prog w 0 (fun _ => true) true 49 v d p) (_hs : ∀ n ∈ d.weights Try.prog 49, n ≤ reachBytes) :
    ∃ x : Int × Int, v = .agg #[.int .i64 x.1, .int .i64 x.2] ∧ (Lit.int .i64 x.1).wf = true ∧ (Lit.int .i64 x.2).wf = true := by
  unfold Value.okWide at hv
  rw [Op.u_pair] at hv
  obtain ⟨cs, rfl, hsz, _⟩ := hv
  rw [Op.c_pair] at hsz
  obtain ⟨fuel, hf⟩ := h
  obtain ⟨xs, m, rfl, _, hl, hxl, hat⟩ := DataW.trod_array Op.u_pair hf
  have hcl : (Value.agg cs).cells.toList = cs.toList := rfl
  rw [hcl] at hat
  have h0 := hat 0 (by omega)
  have h1 := hat 1 (by omega)
  rw [Op.c_int] at h0 h1
  obtain ⟨c0, c1, rfl⟩ : ∃ c0 c1, cs = #[c0, c1] := ⟨cs[0], cs[1], by apply Array.ext'; match cs, hsz with | ⟨[a, b]⟩, _ => rfl⟩
  rw [List.getElem?_eq_getElem (by omega)] at h0 h1
  simp only [Nat.zero_mul, List.drop_zero, List.take_succ_cons, List.take_zero, Nat.one_mul, List.drop_succ_cons] at h0 h1
  obtain ⟨n0, e0, _, w0⟩ := DataW.trod_int Op.u_int h0
  obtain ⟨n1, e1, _, w1⟩ := DataW.trod_int Op.u_int h1
  cases e0
  cases e1
  exact ⟨⟨n0, n1⟩, rfl, w0, w1⟩
end

end Go.Proofs.Ytfmpmdkedpollaa
