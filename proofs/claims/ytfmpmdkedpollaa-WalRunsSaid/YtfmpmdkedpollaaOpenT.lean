/- Arguments as the walks take them: lists of texts, lists of lists of texts, pairs of numbers; with the bound that the form lays on all that is read. -/
import Derived.Test.YtfmpmdkedpollaaStrs
import Derived.ProofKit
import Derived.SliceStrings
import Derived.SizedLaws
import Derived.Deep.Slices
import Derived.Deep.Fields
import Derived.ChangeSame
import Derived.OpenShut
namespace Go.Proofs.Ytfmpmdkedpollaa
open Go.RowKit Go.Maps Go.ChangeShapes Go.WideShapes Go.Deep

/-- texts that came in: read, none longer than what can be -/
structure TextsIn (w : World) (ao : Option Addr) (l : List ByteArray) : Prop where
  row : StrsIn w ao l
  few : l.length ≤ 8796093022208
  small : ∀ i, i < l.length → (l.getD i ByteArray.empty).size ≤ 140737488351232
theorem TextsIn.keeps {S : Nat → Prop} {w w' : World} {ao : Option Addr} {l : List ByteArray} (h : TextsIn w ao l) (ho : Only S w w') (hs : ∀ a, ao = some a → ¬ S a.block) : TextsIn w' ao l := ⟨h.row.keeps ho hs, h.few, h.small⟩

namespace Op
theorem u_string : Try.prog.underlying 9 = some .string := by kernel_rfl
theorem u_int : Try.prog.underlying 3 = some (.int .i64) := by kernel_rfl
theorem c_string : Try.prog.cellsOf 9 = 1 := by kernel_rfl
theorem c_int : Try.prog.cellsOf 3 = 1 := by kernel_rfl
theorem b_string : Try.prog.bytesOf 9 = 16 := by kernel_rfl
theorem add_none (b off j : Nat) : (⟨b, off, none⟩ : Addr).add j = ⟨b, off + j, none⟩ := by unfold Addr.add; split <;> simp_all
theorem weights_all {H : Type} {P : Program} {e : TypeId} {d : DataW H} {n : Nat} : ∀ {l : List (DataW H)}, d ∈ l → n ∈ d.weights P e → n ∈ DataW.weightsAll P e l
  | [], h, _ => by cases h
  | y :: r, h, hn => by
    unfold DataW.weightsAll
    rcases List.mem_cons.1 h with rfl | h
    · exact List.mem_append_left _ hn
    · exact List.mem_append_right _ (weights_all h hn)
end Op

section
variable {H : Type} {enc : TypeId × Value → H} {w : World}

theorem open_texts_cs {fuel : Nat} {v : Value} {x : DataW H × List MemPlace} (h : DataW.trod enc Try.prog w 0 (fun _ => true) true fuel 23 [v] = some x) (hs : ∀ n ∈ x.1.weights Try.prog 23, n ≤ reachBytes) :
    ∃ (l : List ByteArray) (ao : Option Addr) (cap : Nat), v = .slice ao l.length cap ∧ TextsIn w ao l ∧ l.length ≤ cap ∧ cap ≤ maxLen := by
  rcases open_strings St.u_strings Op.u_string Op.c_string h with ⟨hcs, _⟩ | ⟨a, len, cap, ss, hcs, _, hl, hm, hz, hx, hcell, _⟩
  · simp at hcs
    subst hcs
    exact ⟨[], none, 0, rfl, ⟨StrsIn.none w, by simp, fun i hi => by simp at hi⟩, by simp, by simp⟩
  · simp at hcs
    subst hcs
    have hz' : ss.length = cap := by simpa using hz
    have hlen : (ss.take len).length = len := by rw [List.length_take]; omega
    rw [hx] at hs
    simp only [DataW.weights, St.u_strings, Op.b_string] at hs
    have hs0 := hs _ (List.mem_cons_self ..)
    simp only [strs, List.length_map, hlen, List.length_drop, reachBytes] at hs0
    refine ⟨ss.take len, some a, cap, by rw [hlen], ⟨⟨by rw [hlen]; omega, fun i hi => ?_⟩, by rw [hlen]; omega, fun i hi => ?_⟩, by omega, hm⟩
    · have hi' : i < len := by omega
      have hc := hcell i (by omega)
      have hc0 := hcell 0 (by omega)
      obtain ⟨b, off, spot⟩ := a
      have hspot : spot = none := by simpa [Addr.add] using World.cell?_spot hc0
      subst hspot
      refine ⟨b, off, rfl, ?_⟩
      have e : (ss.take len).getD i ByteArray.empty = ss.getD i ByteArray.empty := by simp [List.getD, List.getElem?_take, hi']
      rw [e, ← Op.add_none]
      exact hc
    · rw [List.getD_eq_getElem?_getD, List.getElem?_eq_getElem hi, Option.getD_some]
      have hm2 : (ss.take len)[i] ∈ ss.take len := List.getElem_mem hi
      have hd : (.lit (.string ((ss.take len)[i]).data.toList) : DataW H) ∈ strs (ss.take len) := List.mem_map.2 ⟨_, hm2, rfl⟩
      have := hs _ (List.mem_cons_of_mem _ (List.mem_append_left _ (Op.weights_all (P := Try.prog) (e := 9) (n := ((ss.take len)[i]).data.toList.length) hd (by simp [DataW.weights]))))
      simp only [reachBytes] at this
      simpa using this

theorem open_texts {v : Value} {d : DataW H} {p : List MemPlace} {r : Reach} {base : Nat} (hv : Value.okWide Try.prog w r base 23 v) (h : DataW.Trod enc Try.prog w 0 (fun _ => true) true 23 v d p) (hs : ∀ n ∈ d.weights Try.prog 23, n ≤ reachBytes) :
    ∃ x : List ByteArray × Option Addr × Nat, v = .slice x.2.1 x.1.length x.2.2 ∧ TextsIn w x.2.1 x.1 ∧ x.1.length ≤ x.2.2 ∧ x.2.2 ≤ maxLen := by
  obtain ⟨a, len, cap, rfl⟩ := okWide_slice St.u_strings hv
  obtain ⟨fuel, hf⟩ := h
  obtain ⟨l, ao, cap', e, hi⟩ := open_texts_cs (by simpa [Value.cells] using hf) hs
  exact ⟨⟨l, ao, cap'⟩, e, hi⟩

/-- lists of texts that came in -/
structure RowsIn (w : World) (ao : Option Addr) (L : List (List ByteArray × Option Addr × Nat)) : Prop where
  len : L.length ≤ maxLen
  cell : ∀ i, i < L.length → ∃ b off, ao = some ⟨b, off, none⟩ ∧ w.cell? ⟨b, off + i, none⟩ = some (.slice (L.getD i ([], none, 0)).2.1 (L.getD i ([], none, 0)).1.length (L.getD i ([], none, 0)).2.2)
  texts : ∀ i, i < L.length → TextsIn w (L.getD i ([], none, 0)).2.1 (L.getD i ([], none, 0)).1
theorem RowsIn.keeps {w w' : World} {ao : Option Addr} {L : List (List ByteArray × Option Addr × Nat)} (h : RowsIn w ao L) (ho : Only NoBlock w w') : RowsIn w' ao L :=
  ⟨h.len, fun i hi => by
    obtain ⟨b, off, e, hc⟩ := h.cell i hi
    refine ⟨b, off, e, ?_⟩
    have hlt : b < w.heap.size := World.block_lt_of_cell? w _ hc
    have hb := ho.block b hlt (fun h => h)
    rw [← hc]
    simp [World.cell?, hb], fun i hi => (h.texts i hi).keeps ho (fun _ _ h => h)⟩
end

end Go.Proofs.Ytfmpmdkedpollaa
