/- What a majority has reached a majority has; and it never falls when one reaches more: the walk of the law. -/
import Derived.Test.YtlkonimjeoaljaaDoorBegun6
import Derived.Test.YtlkonimjeoaljaaDoorPlain6B
import Derived.Test.YtlkonimjeoaljaaDoorOpen6
import Derived.Laws.CopyOwn
namespace Go.Proofs.YtlkonimjeoaljaaDoor
open Go.RowKit

namespace Qu
/-- the set of those below k that have x or more -/
def setTo (l : List Int) (x : Int) : Nat → Nat
  | 0 => 0
  | k + 1 => if x ≤ l.getD k 0 then setTo l x k ||| 2 ^ k else setTo l x k
theorem setTo_bit (l : List Int) (x : Int) (i : Nat) : ∀ k, (setTo l x k).testBit i = decide (i < k ∧ x ≤ l.getD i 0)
  | 0 => by simp [setTo]
  | k + 1 => by
    unfold setTo
    have ih := setTo_bit l x i k
    by_cases hx : x ≤ l.getD k 0
    · rw [if_pos hx, Nat.testBit_or, ih, Nat.testBit_two_pow]
      by_cases hik : k = i
      · subst hik
        have : decide (k < k + 1 ∧ x ≤ l.getD k 0) = true := by simp only [decide_eq_true_eq]; exact ⟨by omega, hx⟩
        rw [this]
        simp
      · have : (i < k + 1) ↔ i < k := by omega
        simp [hik, this]
    · rw [if_neg hx, ih]
      by_cases hik : i = k
      · subst hik
        rw [decide_eq_decide]
        constructor
        · rintro ⟨h, _⟩; omega
        · rintro ⟨_, h⟩; exact absurd h hx
      · have : (i < k + 1) ↔ i < k := by omega
        simp [this]
theorem setTo_lt (l : List Int) (x : Int) : ∀ k, k ≤ 7 → setTo l x k < 128
  | 0, _ => by unfold setTo; omega
  | k + 1, h => by
    have ih := setTo_lt l x k (by omega)
    unfold setTo
    split
    · refine Nat.or_lt_two_pow (n := 7) ih ?_
      exact Nat.pow_lt_pow_right (by decide) (by omega)
    · exact ih
theorem setTo_pop (c : Nat) (l : List Int) (x : Int) : pop ((c &&& setTo l x 7) % 128) = cntTo c l x 7 :=
  pop_bits (fun i hi => by rw [setTo_bit]; simp [hi])
theorem maj_set (c : Nat) (l : List Int) (h : 0 < pop (c % 128)) : majB c (setTo l (reachN c l) 7) = true := by
  unfold majB
  rw [setTo_pop, decide_eq_true_eq]
  exact (reach_iff c l _ h).2 (Int.le_refl _)
theorem maj_above (c : Nat) (l : List Int) (h : 0 < pop (c % 128)) : majB c (setTo l (reachN c l + 1) 7) = false := by
  unfold majB
  rw [setTo_pop, decide_eq_false_iff_not, reach_iff c l _ h]
  omega
theorem reach_wf (c : Nat) (l : List Int) (hl : ∀ x ∈ l, 0 ≤ x ∧ x < 18446744073709551616) : 0 ≤ reachN c l ∧ reachN c l < 18446744073709551616 := by
  by_cases hp : pop (c % 128) = 0
  · rw [reach_none c l hp]; omega
  · obtain ⟨i, _, _, e⟩ := reach_mem c l (by omega)
    rw [e, List.getD_eq_getElem?_getD]
    by_cases h : i < l.length
    · rw [List.getElem?_eq_getElem h, Option.getD_some]; exact hl _ (List.getElem_mem h)
    · rw [List.getElem?_eq_none (by omega), Option.getD_none]; omega
end Qu

theorem rem7 (id : Int) : ∃ j : Nat, j < 7 ∧ (wrap64 (id.tmod 7 + 7)).tmod 7 = (j : Int) := norm_mod id 7 (by decide) (by decide)
theorem set_getD {l : List Int} {k i : Nat} (hi : i < l.length) (y : Int) : (l.set k y).getD i 0 = if k = i then y else l.getD i 0 := by
  rw [List.getD_eq_getElem?_getD, List.getElem?_set]
  split
  · rw [if_pos (by omega)]; rfl
  · rw [List.getD_eq_getElem?_getD]
theorem steps_end (w : World) (c : Nat) (hc : c < 2 ^ 64) (B : Nat) (l : List Int) (hl : l.length = 7) (hw : ∀ x ∈ l, (Lit.int .u64 x).wf = true) (T : TypeId) (hB : Blk w B (l.map (Value.int .u64)).toArray T) (ht : Qu.TabOk w) (hb : Nat) (hBb : hb ≤ B) (hbt : ∀ w', Only (fun k => k = B) w w' → Qu.TabOk w') (k : Nat) (hk : k < 7) (m : Int) (hm : (Lit.int .u64 m).wf = true) :
    Calls Tryd.prog 10 #[.int .u64 c, .slice (some ⟨B, 0, none⟩) 7 7] (w.setCell ⟨B, k, none⟩ (.int .u64 (max (l.getD k 0) m))) fun e w' => ∃ x : Int, e = .returned (.int .u64 x) ∧ decide (x ≥ Qu.reachN c l) = true ∧ Only (fun k => k = B) w w' := by
  have ho : Only (fun k => k = B) w (w.setCell ⟨B, k, none⟩ (.int .u64 (max (l.getD k 0) m))) := (Only.refl (fun k => k = B) w).setCell (p := ⟨B, k, none⟩) (fun _ => rfl) _
  have hmw : (Lit.int .u64 (max (l.getD k 0) m)).wf = true := by
    rw [Int.max_def]
    split
    · exact hm
    · exact hw _ (by rw [List.getD_eq_getElem?_getD, List.getElem?_eq_getElem (by omega), Option.getD_some]; exact List.getElem_mem _)
  have hU : U64In (w.setCell ⟨B, k, none⟩ (.int .u64 (max (l.getD k 0) m))) (some ⟨B, 0, none⟩) (l.set k (max (l.getD k 0) m)) :=
    ⟨fun x hx => by
      rcases List.mem_or_eq_of_mem_set hx with h | h
      · exact hw x h
      · rw [h]; exact hmw,
     by rw [List.length_set, hl]; unfold maxLen; omega,
     fun i hi => by
      rw [List.length_set, hl] at hi
      refine ⟨_, _, rfl, ?_⟩
      rw [Nat.zero_add, (hB.setCell k _).cell]
      generalize max (l.getD k 0) m = y
      rw [set_getD (by omega)]
      by_cases h : k = i
      · subst h
        rw [if_pos rfl]
        simp [hl, hi]
      · rw [if_neg h, Array.getElem?_setIfInBounds_ne h, List.getD_eq_getElem?_getD, List.getElem?_eq_getElem (by omega)]
        simp [hl, hi]⟩
  have h7 : (l.set k (max (l.getD k 0) m)).length = 7 := by rw [List.length_set, hl]
  have hr := reached_at _ c hc _ (some ⟨B, 0, none⟩) 7 hU (hbt _ ho)
  rw [h7] at hr
  refine hr.mono ?_
  rintro e w' ⟨rfl, ho'⟩
  refine ⟨_, rfl, ?_, ho.trans (ho'.mono (fun _ h => h.elim))⟩
  rw [decide_eq_true_eq]
  refine Qu.reach_mono fun i hi => ?_
  rw [set_getD (by omega)]
  by_cases h : k = i
  · subst h
    rw [if_pos rfl]
    exact Int.le_max_left _ _
  · rw [if_neg h]
    exact Int.le_refl _
theorem t_u64 (h : 22 < Tryd.prog.types.size) : (Tryd.prog.types[22]'h).size = 1 := by kernel_rfl
theorem u_seven : Tryd.prog.underlying 35 = some (.array 7 22) := by kernel_rfl
theorem run_index7 (cs : Array Value) (k : Nat) (hk : k < 7) (x : Value) (hx : cs[k]? = some x) (w : World) :
    (Instr.index 35 (.agg cs) (.int .i64 k)).run Tryd.prog w = .ok x w := by
  have hn : 0 ≤ (k : Int) ∧ (k : Int) < ((7 : Nat) : Int) := by omega
  have hsz := t_u64
  obtain ⟨hlt, hx'⟩ := Array.getElem?_eq_some_iff.1 hx
  simp [Instr.index, run_underlying u_seven, asIntOf, hn, go_sem]
  rw [if_pos hk, hx]
  rfl
section
variable {ops : Array Oper} {rest : List Oper} {o : Oper} {a : Act} {Q : Exit → Act → World → Prop}
theorem wpList_index7 (w : World) (hgd : o.guard = none) (s x : Operand) (ho : o.op = .index 35 s x) (cs : Array Value) (k : Nat) (hk : k < 7) (hs : a.eval s = .agg cs) (hx : a.eval x = .int .i64 k) (v : Value) (hv : cs[k]? = some v)
    (h : wpList Tryd.prog ops Q rest (a.put o.dst v) w) : wpList Tryd.prog ops Q (o :: rest) a w := by
  refine wpList_plain hgd fun K hK => ?_
  have hrun := run_index7 cs k hk v hv w
  unfold Oper.wp
  simp [execOp, ho, hs, hx, hrun, Result.andThen]
  exact hK _ _ h
end

set_option maxRecDepth 100000 in
set_option maxHeartbeats 4000000 in
theorem walk_steps (w : World) (c : Nat) (hc : c < 2 ^ 64) (a0 a1 a2 a3 a4 a5 a6 m : Int) (hw : ∀ x ∈ [a0, a1, a2, a3, a4, a5, a6], (Lit.int .u64 x).wf = true) (hm : (Lit.int .u64 m).wf = true) (id : Int) (hid : (Lit.int .i64 id).wf = true) (ht : Qu.TabOk w) :
    Calls Tryd.prog 5 #[.int .u64 c, .agg #[.int .u64 a0, .int .u64 a1, .int .u64 a2, .int .u64 a3, .int .u64 a4, .int .u64 a5, .int .u64 a6, .int .u64 m], .int .i64 id] w fun e w' => e = .returned (.bool true) ∧ Only NoBlock w w' := by
  obtain ⟨W1, hW1⟩ : ∃ W1, w.alloc (.cells #[.int .u64 a0, .int .u64 a1, .int .u64 a2, .int .u64 a3, .int .u64 a4, .int .u64 a5, .int .u64 a6, .int .u64 m] 34) = W1 := ⟨_, rfl⟩
  obtain ⟨W2, hW2⟩ : ∃ W2, W1.alloc (.cells #[.int .u64 0, .int .u64 0, .int .u64 0, .int .u64 0, .int .u64 0, .int .u64 0, .int .u64 0] 35) = W2 := ⟨_, rfl⟩
  have hB0 : Blk W1 w.heap.size #[.int .u64 a0, .int .u64 a1, .int .u64 a2, .int .u64 a3, .int .u64 a4, .int .u64 a5, .int .u64 a6, .int .u64 m] 34 := by rw [← hW1]; exact Blk.made w _ _
  have hs1 : W1.heap.size = w.heap.size + 1 := by rw [← hW1]; simp
  have hB1 : Blk W2 (w.heap.size + 1) #[.int .u64 0, .int .u64 0, .int .u64 0, .int .u64 0, .int .u64 0, .int .u64 0, .int .u64 0] 35 := by rw [← hW2, ← hs1]; exact Blk.made W1 _ _
  have ho1 : Only NoBlock w W1 := by rw [← hW1]; exact (Only.refl _ _).alloc _
  have ho12 : Only NoBlock W1 W2 := by rw [← hW2]; exact (Only.refl _ _).alloc _
  have ho2 := ho1.trans ho12
  have hB0' := hB0.keeps ho12 (fun h => h)
  have hsrc : ∀ (j : Nat) (v : Value), [Value.int .u64 a0, .int .u64 a1, .int .u64 a2, .int .u64 a3, .int .u64 a4, .int .u64 a5, .int .u64 a6][j]? = some v → W2.cell? ((⟨w.heap.size, 0, none⟩ : Addr).add j) = some v := by
    intro j v hv
    have hj : j < 7 := by
      by_cases h : j < 7
      · exact h
      · rw [List.getElem?_eq_none (by simp; omega)] at hv; cases hv
    rw [Addr.add_lit, Nat.zero_add, hB0'.cell]
    have h7 : j = 0 ∨ j = 1 ∨ j = 2 ∨ j = 3 ∨ j = 4 ∨ j = 5 ∨ j = 6 := by omega
    rcases h7 with rfl | rfl | rfl | rfl | rfl | rfl | rfl <;> exact hv
  have HS := Lib.hid hsrc
  have HB0 := Lib.hid hB0'
  have HB1 := Lib.hid hB1
  have HO2 := Lib.hid ho2
  have HSZ := Lib.hid hs1
  clear hsrc hB0 hB0' hB1 ho1 ho12 ho2
  go_enter Tryd.func5, Tryd.ntmps5
  go_wp2_with fail
  clear hW1 hW2 hs1
  go_region_law (refine step_copy_splice rfl (.tmp 14) (.tmp 15) 23 23 rfl 22 Nu64.u_u64s (by kernel_rfl) _ _ 7 7 7 8 rfl rfl (w.heap.size + 1) 0 [.int .u64 0, .int .u64 0, .int .u64 0, .int .u64 0, .int .u64 0, .int .u64 0, .int .u64 0] 35 HB1.out [Value.int .u64 a0, .int .u64 a1, .int .u64 a2, .int .u64 a3, .int .u64 a4, .int .u64 a5, .int .u64 a6] rfl (fun _ => ⟨rfl, _, rfl, HS.out⟩) (Nat.le_refl 7) (by simp [Value.oneCell']) (w.heap.size + 1) W2.drew (Below.refl _ _) (Nat.le_refl _) ?_; intro w4 hg4 hb4)
  have hspl : splice [Value.int .u64 0, .int .u64 0, .int .u64 0, .int .u64 0, .int .u64 0, .int .u64 0, .int .u64 0] 0 [Value.int .u64 a0, .int .u64 a1, .int .u64 a2, .int .u64 a3, .int .u64 a4, .int .u64 a5, .int .u64 a6] = [Value.int .u64 a0, .int .u64 a1, .int .u64 a2, .int .u64 a3, .int .u64 a4, .int .u64 a5, .int .u64 a6] := by simp [splice]
  rw [hspl] at hg4
  have hB4 : Blk w4 (w.heap.size + 1) #[.int .u64 a0, .int .u64 a1, .int .u64 a2, .int .u64 a3, .int .u64 a4, .int .u64 a5, .int .u64 a6] 35 := hg4.out
  have hO4 : Only NoBlock w w4 := (HO2.out.drew).andThen (T := fun k => w.heap.size + 1 ≤ k) ⟨hb4.os, hb4.tape, hb4.output, hb4.size, fun k _ hk => hb4.block k (by omega)⟩ (fun i hi h => by omega)
  have hm4 : w4.cell? ⟨w.heap.size, 7, none⟩ = some (.int .u64 m) := by
    have h1 : w4.heap[w.heap.size]? = W2.heap[w.heap.size]? := hb4.block w.heap.size (by omega)
    have h2 : Blk w4 w.heap.size #[.int .u64 a0, .int .u64 a1, .int .u64 a2, .int .u64 a3, .int .u64 a4, .int .u64 a5, .int .u64 a6, .int .u64 m] 34 := h1.trans HB0.out
    rw [h2.cell]
    rfl
  clear HB0 HB1 HO2 HSZ HS hg4 hb4 hspl
  go_wp2_with fail
  refine (begun6_ok w4 (ht.keeps hO4 (fun h => h))).mono ?_
  rintro e w5 ⟨rfl, ho5⟩
  have hO5 := hO4.trans ho5
  have hB5 := hB4.keeps ho5 (fun h => h)
  clear hm4 hB4 hO4 ho5
  have hU5 : U64In w5 (some ⟨w.heap.size + 1, 0, none⟩) [a0, a1, a2, a3, a4, a5, a6] :=
    ⟨hw, by unfold maxLen; simp, fun i hi => ⟨_, _, rfl, by
      have h7 : i = 0 ∨ i = 1 ∨ i = 2 ∨ i = 3 ∨ i = 4 ∨ i = 5 ∨ i = 6 := by simp at hi; omega
      rcases h7 with rfl | rfl | rfl | rfl | rfl | rfl | rfl <;> (rw [hB5.cell]; rfl)⟩⟩
  have HU5 := Lib.hid hU5
  have HB5 := Lib.hid hB5
  clear hU5
  go_wp2_with fail
  refine (reached_at w5 c hc [a0, a1, a2, a3, a4, a5, a6] _ 7 HU5.out (ht.keeps hO5 (fun h => h))).mono ?_
  rintro e w6 ⟨rfl, ho6⟩
  have hO6 := hO5.trans ho6
  have hB6 := hB5.keeps ho6 (fun h => h)
  have hwf := Qu.reach_wf c [a0, a1, a2, a3, a4, a5, a6] (fun x hx => by
    obtain ⟨y, rfl, hy⟩ := wf_nat (hw x hx)
    omega)
  have hmj : 0 < Qu.pop (c % 128) → Qu.majB c (Qu.setTo [a0, a1, a2, a3, a4, a5, a6] (Qu.reachN c [a0, a1, a2, a3, a4, a5, a6]) 7) = true ∧ Qu.majB c (Qu.setTo [a0, a1, a2, a3, a4, a5, a6] (Qu.reachN c [a0, a1, a2, a3, a4, a5, a6] + 1) 7) = false := fun h => ⟨Qu.maj_set c _ h, Qu.maj_above c _ h⟩
  have hmono := fun (l : List Int) => Qu.reach_mono (c := c) (l := [a0, a1, a2, a3, a4, a5, a6]) (m := l)
  have hend := fun (w7 : World) hB ht k hk hbt => steps_end w7 c hc (w.heap.size + 1) [a0, a1, a2, a3, a4, a5, a6] rfl hw 35 hB ht 0 (Nat.zero_le _) hbt k hk m hm
  generalize Qu.reachN c [a0, a1, a2, a3, a4, a5, a6] = n at hwf hmj hmono hend ⊢
  have HEND := Lib.hid hend
  clear hend
  have HMJ := Lib.hid hmj
  have HMO := Lib.hid hmono
  have HB6 := Lib.hid hB6
  clear hmj hmono hB5 ho6 hO5
  have cs := fun k => hB6.cell k
  have c0 := cs 0
  have c1 := cs 1
  have c2 := cs 2
  have c3 := cs 3
  have c4 := cs 4
  have c5 := cs 5
  have c6 := cs 6
  simp at c0 c1 c2 c3 c4 c5 c6
  clear cs hB6
  go_wp2_with fail
  go_loop [10, 11, 25] (fun v10 v11 v25 => ∃ k : Nat, k ≤ 7 ∧ v25 = .int .i64 k ∧ v10 = .int .u64 (Qu.setTo [a0, a1, a2, a3, a4, a5, a6] n k : Int) ∧ v11 = .int .u64 (Qu.setTo [a0, a1, a2, a3, a4, a5, a6] (n + 1) k : Int)) (fun _ _ v25 => 7 - (intOf v25).toNat)
  case atStart => exact ⟨0, by omega, rfl, rfl, rfl⟩
  case round =>
    obtain ⟨k, hk, rfl, rfl, rfl⟩ := hrel
    clear c0 c1 c2 c3 c4 c5 c6
    have hl1 := Qu.setTo_lt [a0, a1, a2, a3, a4, a5, a6] n k hk
    have hl2 := Qu.setTo_lt [a0, a1, a2, a3, a4, a5, a6] (n + 1) k hk
    have hz := t_u64
    by_cases hlt : k < 7
    · have h7 : k = 0 ∨ k = 1 ∨ k = 2 ∨ k = 3 ∨ k = 4 ∨ k = 5 ∨ k = 6 := by omega
      clear hlt hk
      rcases h7 with rfl | rfl | rfl | rfl | rfl | rfl | rfl
      · have hs1 : Qu.setTo [a0, a1, a2, a3, a4, a5, a6] n 1 = if n ≤ a0 then Qu.setTo [a0, a1, a2, a3, a4, a5, a6] n 0 ||| 1 else Qu.setTo [a0, a1, a2, a3, a4, a5, a6] n 0 := rfl
        have hs2 : Qu.setTo [a0, a1, a2, a3, a4, a5, a6] (n + 1) 1 = if n + 1 ≤ a0 then Qu.setTo [a0, a1, a2, a3, a4, a5, a6] (n + 1) 0 ||| 1 else Qu.setTo [a0, a1, a2, a3, a4, a5, a6] (n + 1) 0 := rfl
        generalize Qu.setTo [a0, a1, a2, a3, a4, a5, a6] n 0 = s1 at hs1 hl1
        generalize Qu.setTo [a0, a1, a2, a3, a4, a5, a6] (n + 1) 0 = s2 at hs2 hl2
        have ho1 := Qu.or_nat (x := s1) (y := 1) (by omega) (by decide)
        have ho2 := Qu.or_nat (x := s2) (y := 1) (by omega) (by decide)
        have HO1 := Lib.hid ho1
        have HO2 := Lib.hid ho2
        have HS1 := Lib.hid hs1
        have HS2 := Lib.hid hs2
        clear ho1 ho2 hs1 hs2
        by_cases hge : n ≤ a0
        · by_cases hgt : n < a0
          · have HG := Lib.hid (And.intro hge hgt)
            go_wp2_with (refine wpList_index7 _ rfl (.tmp 24) (.tmp 25) rfl _ 0 (by decide) rfl rfl (.int .u64 a0) rfl ?_)
            go_round
            case rel => exact ⟨1, by omega, by go_num, by rw [HS1.out, if_pos HG.out.1]; exact congrArg _ HO1.out, by rw [HS2.out, if_pos (by have := HG.out.2; omega)]; exact congrArg _ HO2.out⟩
            case measure => simp [intOf]
          · have HG := Lib.hid (And.intro hge hgt)
            go_wp2_with (refine wpList_index7 _ rfl (.tmp 24) (.tmp 25) rfl _ 0 (by decide) rfl rfl (.int .u64 a0) rfl ?_)
            go_round
            case rel => exact ⟨1, by omega, by go_num, by rw [HS1.out, if_pos HG.out.1]; exact congrArg _ HO1.out, by rw [HS2.out, if_neg (by have := HG.out.2; omega)]⟩
            case measure => simp [intOf]
        · have hgt : ¬ n < a0 := by omega
          have HG := Lib.hid (And.intro hge hgt)
          go_wp2_with (refine wpList_index7 _ rfl (.tmp 24) (.tmp 25) rfl _ 0 (by decide) rfl rfl (.int .u64 a0) rfl ?_)
          go_round
          case rel => exact ⟨1, by omega, by go_num, by rw [HS1.out, if_neg (by have := HG.out.1; omega)], by rw [HS2.out, if_neg (by have := HG.out.2; omega)]⟩
          case measure => simp [intOf]
      · have hs1 : Qu.setTo [a0, a1, a2, a3, a4, a5, a6] n 2 = if n ≤ a1 then Qu.setTo [a0, a1, a2, a3, a4, a5, a6] n 1 ||| 2 else Qu.setTo [a0, a1, a2, a3, a4, a5, a6] n 1 := rfl
        have hs2 : Qu.setTo [a0, a1, a2, a3, a4, a5, a6] (n + 1) 2 = if n + 1 ≤ a1 then Qu.setTo [a0, a1, a2, a3, a4, a5, a6] (n + 1) 1 ||| 2 else Qu.setTo [a0, a1, a2, a3, a4, a5, a6] (n + 1) 1 := rfl
        generalize Qu.setTo [a0, a1, a2, a3, a4, a5, a6] n 1 = s1 at hs1 hl1
        generalize Qu.setTo [a0, a1, a2, a3, a4, a5, a6] (n + 1) 1 = s2 at hs2 hl2
        have ho1 := Qu.or_nat (x := s1) (y := 2) (by omega) (by decide)
        have ho2 := Qu.or_nat (x := s2) (y := 2) (by omega) (by decide)
        have HO1 := Lib.hid ho1
        have HO2 := Lib.hid ho2
        have HS1 := Lib.hid hs1
        have HS2 := Lib.hid hs2
        clear ho1 ho2 hs1 hs2
        by_cases hge : n ≤ a1
        · by_cases hgt : n < a1
          · have HG := Lib.hid (And.intro hge hgt)
            go_wp2_with (refine wpList_index7 _ rfl (.tmp 24) (.tmp 25) rfl _ 1 (by decide) rfl rfl (.int .u64 a1) rfl ?_)
            go_round
            case rel => exact ⟨2, by omega, by go_num, by rw [HS1.out, if_pos HG.out.1]; exact congrArg _ HO1.out, by rw [HS2.out, if_pos (by have := HG.out.2; omega)]; exact congrArg _ HO2.out⟩
            case measure => simp [intOf]
          · have HG := Lib.hid (And.intro hge hgt)
            go_wp2_with (refine wpList_index7 _ rfl (.tmp 24) (.tmp 25) rfl _ 1 (by decide) rfl rfl (.int .u64 a1) rfl ?_)
            go_round
            case rel => exact ⟨2, by omega, by go_num, by rw [HS1.out, if_pos HG.out.1]; exact congrArg _ HO1.out, by rw [HS2.out, if_neg (by have := HG.out.2; omega)]⟩
            case measure => simp [intOf]
        · have hgt : ¬ n < a1 := by omega
          have HG := Lib.hid (And.intro hge hgt)
          go_wp2_with (refine wpList_index7 _ rfl (.tmp 24) (.tmp 25) rfl _ 1 (by decide) rfl rfl (.int .u64 a1) rfl ?_)
          go_round
          case rel => exact ⟨2, by omega, by go_num, by rw [HS1.out, if_neg (by have := HG.out.1; omega)], by rw [HS2.out, if_neg (by have := HG.out.2; omega)]⟩
          case measure => simp [intOf]
      · have hs1 : Qu.setTo [a0, a1, a2, a3, a4, a5, a6] n 3 = if n ≤ a2 then Qu.setTo [a0, a1, a2, a3, a4, a5, a6] n 2 ||| 4 else Qu.setTo [a0, a1, a2, a3, a4, a5, a6] n 2 := rfl
        have hs2 : Qu.setTo [a0, a1, a2, a3, a4, a5, a6] (n + 1) 3 = if n + 1 ≤ a2 then Qu.setTo [a0, a1, a2, a3, a4, a5, a6] (n + 1) 2 ||| 4 else Qu.setTo [a0, a1, a2, a3, a4, a5, a6] (n + 1) 2 := rfl
        generalize Qu.setTo [a0, a1, a2, a3, a4, a5, a6] n 2 = s1 at hs1 hl1
        generalize Qu.setTo [a0, a1, a2, a3, a4, a5, a6] (n + 1) 2 = s2 at hs2 hl2
        have ho1 := Qu.or_nat (x := s1) (y := 4) (by omega) (by decide)
        have ho2 := Qu.or_nat (x := s2) (y := 4) (by omega) (by decide)
        have HO1 := Lib.hid ho1
        have HO2 := Lib.hid ho2
        have HS1 := Lib.hid hs1
        have HS2 := Lib.hid hs2
        clear ho1 ho2 hs1 hs2
        by_cases hge : n ≤ a2
        · by_cases hgt : n < a2
          · have HG := Lib.hid (And.intro hge hgt)
            go_wp2_with (refine wpList_index7 _ rfl (.tmp 24) (.tmp 25) rfl _ 2 (by decide) rfl rfl (.int .u64 a2) rfl ?_)
            go_round
            case rel => exact ⟨3, by omega, by go_num, by rw [HS1.out, if_pos HG.out.1]; exact congrArg _ HO1.out, by rw [HS2.out, if_pos (by have := HG.out.2; omega)]; exact congrArg _ HO2.out⟩
            case measure => simp [intOf]
          · have HG := Lib.hid (And.intro hge hgt)
            go_wp2_with (refine wpList_index7 _ rfl (.tmp 24) (.tmp 25) rfl _ 2 (by decide) rfl rfl (.int .u64 a2) rfl ?_)
            go_round
            case rel => exact ⟨3, by omega, by go_num, by rw [HS1.out, if_pos HG.out.1]; exact congrArg _ HO1.out, by rw [HS2.out, if_neg (by have := HG.out.2; omega)]⟩
            case measure => simp [intOf]
        · have hgt : ¬ n < a2 := by omega
          have HG := Lib.hid (And.intro hge hgt)
          go_wp2_with (refine wpList_index7 _ rfl (.tmp 24) (.tmp 25) rfl _ 2 (by decide) rfl rfl (.int .u64 a2) rfl ?_)
          go_round
          case rel => exact ⟨3, by omega, by go_num, by rw [HS1.out, if_neg (by have := HG.out.1; omega)], by rw [HS2.out, if_neg (by have := HG.out.2; omega)]⟩
          case measure => simp [intOf]
      · have hs1 : Qu.setTo [a0, a1, a2, a3, a4, a5, a6] n 4 = if n ≤ a3 then Qu.setTo [a0, a1, a2, a3, a4, a5, a6] n 3 ||| 8 else Qu.setTo [a0, a1, a2, a3, a4, a5, a6] n 3 := rfl
        have hs2 : Qu.setTo [a0, a1, a2, a3, a4, a5, a6] (n + 1) 4 = if n + 1 ≤ a3 then Qu.setTo [a0, a1, a2, a3, a4, a5, a6] (n + 1) 3 ||| 8 else Qu.setTo [a0, a1, a2, a3, a4, a5, a6] (n + 1) 3 := rfl
        generalize Qu.setTo [a0, a1, a2, a3, a4, a5, a6] n 3 = s1 at hs1 hl1
        generalize Qu.setTo [a0, a1, a2, a3, a4, a5, a6] (n + 1) 3 = s2 at hs2 hl2
        have ho1 := Qu.or_nat (x := s1) (y := 8) (by omega) (by decide)
        have ho2 := Qu.or_nat (x := s2) (y := 8) (by omega) (by decide)
        have HO1 := Lib.hid ho1
        have HO2 := Lib.hid ho2
        have HS1 := Lib.hid hs1
        have HS2 := Lib.hid hs2
        clear ho1 ho2 hs1 hs2
        by_cases hge : n ≤ a3
        · by_cases hgt : n < a3
          · have HG := Lib.hid (And.intro hge hgt)
            go_wp2_with (refine wpList_index7 _ rfl (.tmp 24) (.tmp 25) rfl _ 3 (by decide) rfl rfl (.int .u64 a3) rfl ?_)
            go_round
            case rel => exact ⟨4, by omega, by go_num, by rw [HS1.out, if_pos HG.out.1]; exact congrArg _ HO1.out, by rw [HS2.out, if_pos (by have := HG.out.2; omega)]; exact congrArg _ HO2.out⟩
            case measure => simp [intOf]
          · have HG := Lib.hid (And.intro hge hgt)
            go_wp2_with (refine wpList_index7 _ rfl (.tmp 24) (.tmp 25) rfl _ 3 (by decide) rfl rfl (.int .u64 a3) rfl ?_)
            go_round
            case rel => exact ⟨4, by omega, by go_num, by rw [HS1.out, if_pos HG.out.1]; exact congrArg _ HO1.out, by rw [HS2.out, if_neg (by have := HG.out.2; omega)]⟩
            case measure => simp [intOf]
        · have hgt : ¬ n < a3 := by omega
          have HG := Lib.hid (And.intro hge hgt)
          go_wp2_with (refine wpList_index7 _ rfl (.tmp 24) (.tmp 25) rfl _ 3 (by decide) rfl rfl (.int .u64 a3) rfl ?_)
          go_round
          case rel => exact ⟨4, by omega, by go_num, by rw [HS1.out, if_neg (by have := HG.out.1; omega)], by rw [HS2.out, if_neg (by have := HG.out.2; omega)]⟩
          case measure => simp [intOf]
      · have hs1 : Qu.setTo [a0, a1, a2, a3, a4, a5, a6] n 5 = if n ≤ a4 then Qu.setTo [a0, a1, a2, a3, a4, a5, a6] n 4 ||| 16 else Qu.setTo [a0, a1, a2, a3, a4, a5, a6] n 4 := rfl
        have hs2 : Qu.setTo [a0, a1, a2, a3, a4, a5, a6] (n + 1) 5 = if n + 1 ≤ a4 then Qu.setTo [a0, a1, a2, a3, a4, a5, a6] (n + 1) 4 ||| 16 else Qu.setTo [a0, a1, a2, a3, a4, a5, a6] (n + 1) 4 := rfl
        generalize Qu.setTo [a0, a1, a2, a3, a4, a5, a6] n 4 = s1 at hs1 hl1
        generalize Qu.setTo [a0, a1, a2, a3, a4, a5, a6] (n + 1) 4 = s2 at hs2 hl2
        have ho1 := Qu.or_nat (x := s1) (y := 16) (by omega) (by decide)
        have ho2 := Qu.or_nat (x := s2) (y := 16) (by omega) (by decide)
        have HO1 := Lib.hid ho1
        have HO2 := Lib.hid ho2
        have HS1 := Lib.hid hs1
        have HS2 := Lib.hid hs2
        clear ho1 ho2 hs1 hs2
        by_cases hge : n ≤ a4
        · by_cases hgt : n < a4
          · have HG := Lib.hid (And.intro hge hgt)
            go_wp2_with (refine wpList_index7 _ rfl (.tmp 24) (.tmp 25) rfl _ 4 (by decide) rfl rfl (.int .u64 a4) rfl ?_)
            go_round
            case rel => exact ⟨5, by omega, by go_num, by rw [HS1.out, if_pos HG.out.1]; exact congrArg _ HO1.out, by rw [HS2.out, if_pos (by have := HG.out.2; omega)]; exact congrArg _ HO2.out⟩
            case measure => simp [intOf]
          · have HG := Lib.hid (And.intro hge hgt)
            go_wp2_with (refine wpList_index7 _ rfl (.tmp 24) (.tmp 25) rfl _ 4 (by decide) rfl rfl (.int .u64 a4) rfl ?_)
            go_round
            case rel => exact ⟨5, by omega, by go_num, by rw [HS1.out, if_pos HG.out.1]; exact congrArg _ HO1.out, by rw [HS2.out, if_neg (by have := HG.out.2; omega)]⟩
            case measure => simp [intOf]
        · have hgt : ¬ n < a4 := by omega
          have HG := Lib.hid (And.intro hge hgt)
          go_wp2_with (refine wpList_index7 _ rfl (.tmp 24) (.tmp 25) rfl _ 4 (by decide) rfl rfl (.int .u64 a4) rfl ?_)
          go_round
          case rel => exact ⟨5, by omega, by go_num, by rw [HS1.out, if_neg (by have := HG.out.1; omega)], by rw [HS2.out, if_neg (by have := HG.out.2; omega)]⟩
          case measure => simp [intOf]
      · have hs1 : Qu.setTo [a0, a1, a2, a3, a4, a5, a6] n 6 = if n ≤ a5 then Qu.setTo [a0, a1, a2, a3, a4, a5, a6] n 5 ||| 32 else Qu.setTo [a0, a1, a2, a3, a4, a5, a6] n 5 := rfl
        have hs2 : Qu.setTo [a0, a1, a2, a3, a4, a5, a6] (n + 1) 6 = if n + 1 ≤ a5 then Qu.setTo [a0, a1, a2, a3, a4, a5, a6] (n + 1) 5 ||| 32 else Qu.setTo [a0, a1, a2, a3, a4, a5, a6] (n + 1) 5 := rfl
        generalize Qu.setTo [a0, a1, a2, a3, a4, a5, a6] n 5 = s1 at hs1 hl1
        generalize Qu.setTo [a0, a1, a2, a3, a4, a5, a6] (n + 1) 5 = s2 at hs2 hl2
        have ho1 := Qu.or_nat (x := s1) (y := 32) (by omega) (by decide)
        have ho2 := Qu.or_nat (x := s2) (y := 32) (by omega) (by decide)
        have HO1 := Lib.hid ho1
        have HO2 := Lib.hid ho2
        have HS1 := Lib.hid hs1
        have HS2 := Lib.hid hs2
        clear ho1 ho2 hs1 hs2
        by_cases hge : n ≤ a5
        · by_cases hgt : n < a5
          · have HG := Lib.hid (And.intro hge hgt)
            go_wp2_with (refine wpList_index7 _ rfl (.tmp 24) (.tmp 25) rfl _ 5 (by decide) rfl rfl (.int .u64 a5) rfl ?_)
            go_round
            case rel => exact ⟨6, by omega, by go_num, by rw [HS1.out, if_pos HG.out.1]; exact congrArg _ HO1.out, by rw [HS2.out, if_pos (by have := HG.out.2; omega)]; exact congrArg _ HO2.out⟩
            case measure => simp [intOf]
          · have HG := Lib.hid (And.intro hge hgt)
            go_wp2_with (refine wpList_index7 _ rfl (.tmp 24) (.tmp 25) rfl _ 5 (by decide) rfl rfl (.int .u64 a5) rfl ?_)
            go_round
            case rel => exact ⟨6, by omega, by go_num, by rw [HS1.out, if_pos HG.out.1]; exact congrArg _ HO1.out, by rw [HS2.out, if_neg (by have := HG.out.2; omega)]⟩
            case measure => simp [intOf]
        · have hgt : ¬ n < a5 := by omega
          have HG := Lib.hid (And.intro hge hgt)
          go_wp2_with (refine wpList_index7 _ rfl (.tmp 24) (.tmp 25) rfl _ 5 (by decide) rfl rfl (.int .u64 a5) rfl ?_)
          go_round
          case rel => exact ⟨6, by omega, by go_num, by rw [HS1.out, if_neg (by have := HG.out.1; omega)], by rw [HS2.out, if_neg (by have := HG.out.2; omega)]⟩
          case measure => simp [intOf]
      · have hs1 : Qu.setTo [a0, a1, a2, a3, a4, a5, a6] n 7 = if n ≤ a6 then Qu.setTo [a0, a1, a2, a3, a4, a5, a6] n 6 ||| 64 else Qu.setTo [a0, a1, a2, a3, a4, a5, a6] n 6 := rfl
        have hs2 : Qu.setTo [a0, a1, a2, a3, a4, a5, a6] (n + 1) 7 = if n + 1 ≤ a6 then Qu.setTo [a0, a1, a2, a3, a4, a5, a6] (n + 1) 6 ||| 64 else Qu.setTo [a0, a1, a2, a3, a4, a5, a6] (n + 1) 6 := rfl
        generalize Qu.setTo [a0, a1, a2, a3, a4, a5, a6] n 6 = s1 at hs1 hl1
        generalize Qu.setTo [a0, a1, a2, a3, a4, a5, a6] (n + 1) 6 = s2 at hs2 hl2
        have ho1 := Qu.or_nat (x := s1) (y := 64) (by omega) (by decide)
        have ho2 := Qu.or_nat (x := s2) (y := 64) (by omega) (by decide)
        have HO1 := Lib.hid ho1
        have HO2 := Lib.hid ho2
        have HS1 := Lib.hid hs1
        have HS2 := Lib.hid hs2
        clear ho1 ho2 hs1 hs2
        by_cases hge : n ≤ a6
        · by_cases hgt : n < a6
          · have HG := Lib.hid (And.intro hge hgt)
            go_wp2_with (refine wpList_index7 _ rfl (.tmp 24) (.tmp 25) rfl _ 6 (by decide) rfl rfl (.int .u64 a6) rfl ?_)
            go_round
            case rel => exact ⟨7, by omega, by go_num, by rw [HS1.out, if_pos HG.out.1]; exact congrArg _ HO1.out, by rw [HS2.out, if_pos (by have := HG.out.2; omega)]; exact congrArg _ HO2.out⟩
            case measure => simp [intOf]
          · have HG := Lib.hid (And.intro hge hgt)
            go_wp2_with (refine wpList_index7 _ rfl (.tmp 24) (.tmp 25) rfl _ 6 (by decide) rfl rfl (.int .u64 a6) rfl ?_)
            go_round
            case rel => exact ⟨7, by omega, by go_num, by rw [HS1.out, if_pos HG.out.1]; exact congrArg _ HO1.out, by rw [HS2.out, if_neg (by have := HG.out.2; omega)]⟩
            case measure => simp [intOf]
        · have hgt : ¬ n < a6 := by omega
          have HG := Lib.hid (And.intro hge hgt)
          go_wp2_with (refine wpList_index7 _ rfl (.tmp 24) (.tmp 25) rfl _ 6 (by decide) rfl rfl (.int .u64 a6) rfl ?_)
          go_round
          case rel => exact ⟨7, by omega, by go_num, by rw [HS1.out, if_neg (by have := HG.out.1; omega)], by rw [HS2.out, if_neg (by have := HG.out.2; omega)]⟩
          case measure => simp [intOf]
    · obtain rfl : k = 7 := by omega
      go_wp2_with fail
      refine (members_at w6 c hc (ht.keeps hO6 (fun h => h))).mono ?_
      rintro e w7 ⟨v7, rfl, hm7, ho7⟩
      obtain ⟨a7, k7, rfl⟩ := hm7.shape
      have hpl : (Qu.mem (c % 128)).length = Qu.pop (c % 128) := rfl
      have hp7 := Qu.pop_le (c % 128)
      rw [hpl]
      have hO7 := hO6.trans ho7
      have hB7 := HB6.out.keeps ho7 (fun h => h)
      have HB7 := Lib.hid hB7
      clear hpl hm7 ho7 hB7
      have hls := Qu.setTo_lt [a0, a1, a2, a3, a4, a5, a6] n 7 (by decide)
      have hla := Qu.setTo_lt [a0, a1, a2, a3, a4, a5, a6] (n + 1) 7 (by decide)
      have ht7 := ht.keeps hO7 (fun h => h)
      have hbt : ∀ w', Only (fun k => k = w.heap.size + 1) w7 w' → Qu.TabOk w' := fun w' ho => ht.keeps (hO7.andThen ho (T := fun k => k = w.heap.size + 1) (fun i hi h => by omega)) (fun h => h)
      have HBT := Lib.hid hbt
      clear hbt
      obtain ⟨j, hj7, hj⟩ := rem7 id
      have HMJ' := HMJ
      by_cases hp : Qu.pop (c % 128) = 0
      · rw [hp]
        have h7 : j = 0 ∨ j = 1 ∨ j = 2 ∨ j = 3 ∨ j = 4 ∨ j = 5 ∨ j = 6 := by omega
        rcases h7 with rfl | rfl | rfl | rfl | rfl | rfl | rfl
        · have cj : w7.cell? ⟨w.heap.size + 1, 0, none⟩ = some (.int .u64 a0) := by rw [HB7.out.cell]; rfl
          have fj := HB7.out.free 0
          have hj' : (wrap64 (id.tmod 7 + 7)).tmod 7 = 0 := hj
          clear hj
          have hjn : ((wrap64 (id.tmod 7 + 7)).tmod 7).toNat = 0 := by rw [hj']; rfl
          go_wp2_with fail
          refine (HEND.out w7 HB7.out ht7 0 (by decide) HBT.out).mono ?_
          rintro e w9 ⟨x, rfl, hx, ho9⟩
          go_wp2_with fail
          go_ret
          exact ⟨by rw [← hx]; rfl, hO7.andThen ho9 (T := fun k => k = w.heap.size + 1) (fun i hi h => by omega)⟩
        · have cj : w7.cell? ⟨w.heap.size + 1, 1, none⟩ = some (.int .u64 a1) := by rw [HB7.out.cell]; rfl
          have fj := HB7.out.free 1
          have hj' : (wrap64 (id.tmod 7 + 7)).tmod 7 = 1 := hj
          clear hj
          have hjn : ((wrap64 (id.tmod 7 + 7)).tmod 7).toNat = 1 := by rw [hj']; rfl
          go_wp2_with fail
          refine (HEND.out w7 HB7.out ht7 1 (by decide) HBT.out).mono ?_
          rintro e w9 ⟨x, rfl, hx, ho9⟩
          go_wp2_with fail
          go_ret
          exact ⟨by rw [← hx]; rfl, hO7.andThen ho9 (T := fun k => k = w.heap.size + 1) (fun i hi h => by omega)⟩
        · have cj : w7.cell? ⟨w.heap.size + 1, 2, none⟩ = some (.int .u64 a2) := by rw [HB7.out.cell]; rfl
          have fj := HB7.out.free 2
          have hj' : (wrap64 (id.tmod 7 + 7)).tmod 7 = 2 := hj
          clear hj
          have hjn : ((wrap64 (id.tmod 7 + 7)).tmod 7).toNat = 2 := by rw [hj']; rfl
          go_wp2_with fail
          refine (HEND.out w7 HB7.out ht7 2 (by decide) HBT.out).mono ?_
          rintro e w9 ⟨x, rfl, hx, ho9⟩
          go_wp2_with fail
          go_ret
          exact ⟨by rw [← hx]; rfl, hO7.andThen ho9 (T := fun k => k = w.heap.size + 1) (fun i hi h => by omega)⟩
        · have cj : w7.cell? ⟨w.heap.size + 1, 3, none⟩ = some (.int .u64 a3) := by rw [HB7.out.cell]; rfl
          have fj := HB7.out.free 3
          have hj' : (wrap64 (id.tmod 7 + 7)).tmod 7 = 3 := hj
          clear hj
          have hjn : ((wrap64 (id.tmod 7 + 7)).tmod 7).toNat = 3 := by rw [hj']; rfl
          go_wp2_with fail
          refine (HEND.out w7 HB7.out ht7 3 (by decide) HBT.out).mono ?_
          rintro e w9 ⟨x, rfl, hx, ho9⟩
          go_wp2_with fail
          go_ret
          exact ⟨by rw [← hx]; rfl, hO7.andThen ho9 (T := fun k => k = w.heap.size + 1) (fun i hi h => by omega)⟩
        · have cj : w7.cell? ⟨w.heap.size + 1, 4, none⟩ = some (.int .u64 a4) := by rw [HB7.out.cell]; rfl
          have fj := HB7.out.free 4
          have hj' : (wrap64 (id.tmod 7 + 7)).tmod 7 = 4 := hj
          clear hj
          have hjn : ((wrap64 (id.tmod 7 + 7)).tmod 7).toNat = 4 := by rw [hj']; rfl
          go_wp2_with fail
          refine (HEND.out w7 HB7.out ht7 4 (by decide) HBT.out).mono ?_
          rintro e w9 ⟨x, rfl, hx, ho9⟩
          go_wp2_with fail
          go_ret
          exact ⟨by rw [← hx]; rfl, hO7.andThen ho9 (T := fun k => k = w.heap.size + 1) (fun i hi h => by omega)⟩
        · have cj : w7.cell? ⟨w.heap.size + 1, 5, none⟩ = some (.int .u64 a5) := by rw [HB7.out.cell]; rfl
          have fj := HB7.out.free 5
          have hj' : (wrap64 (id.tmod 7 + 7)).tmod 7 = 5 := hj
          clear hj
          have hjn : ((wrap64 (id.tmod 7 + 7)).tmod 7).toNat = 5 := by rw [hj']; rfl
          go_wp2_with fail
          refine (HEND.out w7 HB7.out ht7 5 (by decide) HBT.out).mono ?_
          rintro e w9 ⟨x, rfl, hx, ho9⟩
          go_wp2_with fail
          go_ret
          exact ⟨by rw [← hx]; rfl, hO7.andThen ho9 (T := fun k => k = w.heap.size + 1) (fun i hi h => by omega)⟩
        · have cj : w7.cell? ⟨w.heap.size + 1, 6, none⟩ = some (.int .u64 a6) := by rw [HB7.out.cell]; rfl
          have fj := HB7.out.free 6
          have hj' : (wrap64 (id.tmod 7 + 7)).tmod 7 = 6 := hj
          clear hj
          have hjn : ((wrap64 (id.tmod 7 + 7)).tmod 7).toNat = 6 := by rw [hj']; rfl
          go_wp2_with fail
          refine (HEND.out w7 HB7.out ht7 6 (by decide) HBT.out).mono ?_
          rintro e w9 ⟨x, rfl, hx, ho9⟩
          go_wp2_with fail
          go_ret
          exact ⟨by rw [← hx]; rfl, hO7.andThen ho9 (T := fun k => k = w.heap.size + 1) (fun i hi h => by omega)⟩
      · have hp' : 0 < Qu.pop (c % 128) := by omega
        have h7 : j = 0 ∨ j = 1 ∨ j = 2 ∨ j = 3 ∨ j = 4 ∨ j = 5 ∨ j = 6 := by omega
        rcases h7 with rfl | rfl | rfl | rfl | rfl | rfl | rfl
        · have cj : w7.cell? ⟨w.heap.size + 1, 0, none⟩ = some (.int .u64 a0) := by rw [HB7.out.cell]; rfl
          have fj := HB7.out.free 0
          have hj' : (wrap64 (id.tmod 7 + 7)).tmod 7 = 0 := hj
          clear hj
          have hjn : ((wrap64 (id.tmod 7 + 7)).tmod 7).toNat = 0 := by rw [hj']; rfl
          go_wp2_with fail
          refine (majority_at w7 c _ hc (Nat.lt_of_lt_of_le hls (by decide))).mono ?_
          rintro e w8 ⟨rfl, rfl⟩
          rw [(HMJ.out hp').1]
          go_wp2_with fail
          refine (majority_at w7 c _ hc (Nat.lt_of_lt_of_le hla (by decide))).mono ?_
          rintro e w8 ⟨rfl, rfl⟩
          rw [(HMJ.out hp').2]
          go_wp2_with fail
          refine (HEND.out w7 HB7.out ht7 0 (by decide) HBT.out).mono ?_
          rintro e w9 ⟨x, rfl, hx, ho9⟩
          go_wp2_with fail
          go_ret
          exact ⟨by rw [← hx]; rfl, hO7.andThen ho9 (T := fun k => k = w.heap.size + 1) (fun i hi h => by omega)⟩
        · have cj : w7.cell? ⟨w.heap.size + 1, 1, none⟩ = some (.int .u64 a1) := by rw [HB7.out.cell]; rfl
          have fj := HB7.out.free 1
          have hj' : (wrap64 (id.tmod 7 + 7)).tmod 7 = 1 := hj
          clear hj
          have hjn : ((wrap64 (id.tmod 7 + 7)).tmod 7).toNat = 1 := by rw [hj']; rfl
          go_wp2_with fail
          refine (majority_at w7 c _ hc (Nat.lt_of_lt_of_le hls (by decide))).mono ?_
          rintro e w8 ⟨rfl, rfl⟩
          rw [(HMJ.out hp').1]
          go_wp2_with fail
          refine (majority_at w7 c _ hc (Nat.lt_of_lt_of_le hla (by decide))).mono ?_
          rintro e w8 ⟨rfl, rfl⟩
          rw [(HMJ.out hp').2]
          go_wp2_with fail
          refine (HEND.out w7 HB7.out ht7 1 (by decide) HBT.out).mono ?_
          rintro e w9 ⟨x, rfl, hx, ho9⟩
          go_wp2_with fail
          go_ret
          exact ⟨by rw [← hx]; rfl, hO7.andThen ho9 (T := fun k => k = w.heap.size + 1) (fun i hi h => by omega)⟩
        · have cj : w7.cell? ⟨w.heap.size + 1, 2, none⟩ = some (.int .u64 a2) := by rw [HB7.out.cell]; rfl
          have fj := HB7.out.free 2
          have hj' : (wrap64 (id.tmod 7 + 7)).tmod 7 = 2 := hj
          clear hj
          have hjn : ((wrap64 (id.tmod 7 + 7)).tmod 7).toNat = 2 := by rw [hj']; rfl
          go_wp2_with fail
          refine (majority_at w7 c _ hc (Nat.lt_of_lt_of_le hls (by decide))).mono ?_
          rintro e w8 ⟨rfl, rfl⟩
          rw [(HMJ.out hp').1]
          go_wp2_with fail
          refine (majority_at w7 c _ hc (Nat.lt_of_lt_of_le hla (by decide))).mono ?_
          rintro e w8 ⟨rfl, rfl⟩
          rw [(HMJ.out hp').2]
          go_wp2_with fail
          refine (HEND.out w7 HB7.out ht7 2 (by decide) HBT.out).mono ?_
          rintro e w9 ⟨x, rfl, hx, ho9⟩
          go_wp2_with fail
          go_ret
          exact ⟨by rw [← hx]; rfl, hO7.andThen ho9 (T := fun k => k = w.heap.size + 1) (fun i hi h => by omega)⟩
        · have cj : w7.cell? ⟨w.heap.size + 1, 3, none⟩ = some (.int .u64 a3) := by rw [HB7.out.cell]; rfl
          have fj := HB7.out.free 3
          have hj' : (wrap64 (id.tmod 7 + 7)).tmod 7 = 3 := hj
          clear hj
          have hjn : ((wrap64 (id.tmod 7 + 7)).tmod 7).toNat = 3 := by rw [hj']; rfl
          go_wp2_with fail
          refine (majority_at w7 c _ hc (Nat.lt_of_lt_of_le hls (by decide))).mono ?_
          rintro e w8 ⟨rfl, rfl⟩
          rw [(HMJ.out hp').1]
          go_wp2_with fail
          refine (majority_at w7 c _ hc (Nat.lt_of_lt_of_le hla (by decide))).mono ?_
          rintro e w8 ⟨rfl, rfl⟩
          rw [(HMJ.out hp').2]
          go_wp2_with fail
          refine (HEND.out w7 HB7.out ht7 3 (by decide) HBT.out).mono ?_
          rintro e w9 ⟨x, rfl, hx, ho9⟩
          go_wp2_with fail
          go_ret
          exact ⟨by rw [← hx]; rfl, hO7.andThen ho9 (T := fun k => k = w.heap.size + 1) (fun i hi h => by omega)⟩
        · have cj : w7.cell? ⟨w.heap.size + 1, 4, none⟩ = some (.int .u64 a4) := by rw [HB7.out.cell]; rfl
          have fj := HB7.out.free 4
          have hj' : (wrap64 (id.tmod 7 + 7)).tmod 7 = 4 := hj
          clear hj
          have hjn : ((wrap64 (id.tmod 7 + 7)).tmod 7).toNat = 4 := by rw [hj']; rfl
          go_wp2_with fail
          refine (majority_at w7 c _ hc (Nat.lt_of_lt_of_le hls (by decide))).mono ?_
          rintro e w8 ⟨rfl, rfl⟩
          rw [(HMJ.out hp').1]
          go_wp2_with fail
          refine (majority_at w7 c _ hc (Nat.lt_of_lt_of_le hla (by decide))).mono ?_
          rintro e w8 ⟨rfl, rfl⟩
          rw [(HMJ.out hp').2]
          go_wp2_with fail
          refine (HEND.out w7 HB7.out ht7 4 (by decide) HBT.out).mono ?_
          rintro e w9 ⟨x, rfl, hx, ho9⟩
          go_wp2_with fail
          go_ret
          exact ⟨by rw [← hx]; rfl, hO7.andThen ho9 (T := fun k => k = w.heap.size + 1) (fun i hi h => by omega)⟩
        · have cj : w7.cell? ⟨w.heap.size + 1, 5, none⟩ = some (.int .u64 a5) := by rw [HB7.out.cell]; rfl
          have fj := HB7.out.free 5
          have hj' : (wrap64 (id.tmod 7 + 7)).tmod 7 = 5 := hj
          clear hj
          have hjn : ((wrap64 (id.tmod 7 + 7)).tmod 7).toNat = 5 := by rw [hj']; rfl
          go_wp2_with fail
          refine (majority_at w7 c _ hc (Nat.lt_of_lt_of_le hls (by decide))).mono ?_
          rintro e w8 ⟨rfl, rfl⟩
          rw [(HMJ.out hp').1]
          go_wp2_with fail
          refine (majority_at w7 c _ hc (Nat.lt_of_lt_of_le hla (by decide))).mono ?_
          rintro e w8 ⟨rfl, rfl⟩
          rw [(HMJ.out hp').2]
          go_wp2_with fail
          refine (HEND.out w7 HB7.out ht7 5 (by decide) HBT.out).mono ?_
          rintro e w9 ⟨x, rfl, hx, ho9⟩
          go_wp2_with fail
          go_ret
          exact ⟨by rw [← hx]; rfl, hO7.andThen ho9 (T := fun k => k = w.heap.size + 1) (fun i hi h => by omega)⟩
        · have cj : w7.cell? ⟨w.heap.size + 1, 6, none⟩ = some (.int .u64 a6) := by rw [HB7.out.cell]; rfl
          have fj := HB7.out.free 6
          have hj' : (wrap64 (id.tmod 7 + 7)).tmod 7 = 6 := hj
          clear hj
          have hjn : ((wrap64 (id.tmod 7 + 7)).tmod 7).toNat = 6 := by rw [hj']; rfl
          go_wp2_with fail
          refine (majority_at w7 c _ hc (Nat.lt_of_lt_of_le hls (by decide))).mono ?_
          rintro e w8 ⟨rfl, rfl⟩
          rw [(HMJ.out hp').1]
          go_wp2_with fail
          refine (majority_at w7 c _ hc (Nat.lt_of_lt_of_le hla (by decide))).mono ?_
          rintro e w8 ⟨rfl, rfl⟩
          rw [(HMJ.out hp').2]
          go_wp2_with fail
          refine (HEND.out w7 HB7.out ht7 6 (by decide) HBT.out).mono ?_
          rintro e w9 ⟨x, rfl, hx, ho9⟩
          go_wp2_with fail
          go_ret
          exact ⟨by rw [← hx]; rfl, hO7.andThen ho9 (T := fun k => k = w.heap.size + 1) (fun i hi h => by omega)⟩

theorem walk_QuorumSteps {w : World} (c : Nat) (hc : c < 2 ^ 64) (x : List Int × Int) (hx : x.1.length = 7 ∧ (∀ y ∈ x.1, (Lit.int .u64 y).wf = true) ∧ (Lit.int .u64 x.2).wf = true) (id : Int) (hid : (Lit.int .i64 id).wf = true) (ht : Qu.TabOk w) :
    Calls Tryd.prog 5 #[.int .u64 c, .agg ((x.1 ++ [x.2]).map (Value.int .u64)).toArray, .int .i64 id] w fun e w' => e = .returned (.bool true) ∧ Below w.heap.size w w' := by
  obtain ⟨l, m⟩ := x
  obtain ⟨hl, hw, hm⟩ := hx
  obtain ⟨a0, a1, a2, a3, a4, a5, a6, rfl⟩ : ∃ a0 a1 a2 a3 a4 a5 a6, l = [a0, a1, a2, a3, a4, a5, a6] := by
    match l, hl with
    | [a0, a1, a2, a3, a4, a5, a6], _ => exact ⟨a0, a1, a2, a3, a4, a5, a6, rfl⟩
  exact (walk_steps w c hc a0 a1 a2 a3 a4 a5 a6 m hw hm id hid ht).mono fun _ _ ⟨he, ho⟩ => ⟨he, ho.below (Nat.le_refl _) (fun _ h => h.elim)⟩

end Go.Proofs.YtlkonimjeoaljaaDoor
