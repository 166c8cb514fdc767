/- The library's sort.Slice at a row of unsigned numbers, the least first, at any length; machine.Machine's Sagas. -/
import Derived.Test.YtogeeeigfhmpmaaU64
import Derived.Test.YtogeeeigfhmpmaaShelfN
import Derived.Test.YtogeeeigfhmpmaaApply
import Derived.Shelf.GgSortFunc.Whole
import Derived.Shelf.GgSortFunc.Tiny
import Derived.Lib.OwnBridge
import Derived.Lib.RowBridge
import Derived.Sort.LotA
namespace Go.Proofs.Ytogeeeigfhmpmaa
open Go.Shelf Go.RowKit Go.Lib Go.Sort
set_option maxRecDepth 100000

namespace Sa
def ltB (x y : Int) : Bool := decide (x < y)
theorem swo : SWO ltB where
  irrefl := fun x => by simp [ltB]
  trans := fun x y z h1 h2 => by simp only [ltB, decide_eq_true_eq] at *; omega
  ntrans := fun x y z h1 h2 => by simp only [ltB, decide_eq_false_iff_not] at *; omega
noncomputable def siT : TypeInfo := (Try.prog.info? 22).get (by kernel_rfl)
noncomputable def siE : TypeInfo := (Try.prog.info? 28).get (by kernel_rfl)
theorem siK (n : Nat) (h2 : 2 ≤ n) : Lib.swapperK n siE 11 = 5 := by
  have a : siE.hasPointers = false := by kernel_rfl
  have b : siE.bytes = 8 := by kernel_rfl
  have c : (n == 0) = false := by simp; omega
  have d : (n == 1) = false := by simp; omega
  simp [Lib.swapperK, a, b, c, d]
theorem grownBy_sorted (enc : Int → Value) {w : World} {g n : Nat} {os : Array Obj} (d : Array Int) : w.grownBy (grow (putRow enc (Sort.ahead w n) g 0 d) os) (some g) := by
  refine ⟨rfl, rfl, rfl, by simp [grow, putRow, mapBlock, Sort.ahead], fun k hk hne => ?_⟩
  rw [heap_grow_old _ _ (by simpa [putRow, mapBlock, Sort.ahead] using hk)]
  have : g ≠ k := fun e => hne (by rw [e])
  simp [putRow, mapBlock, Sort.ahead, Array.getElem?_modify, this]
theorem grownBy_grow (w : World) (os : Array Obj) : w.grownBy (grow w os) none :=
  ⟨rfl, rfl, rfl, by simp [grow], fun k hk _ => heap_grow_old _ _ hk⟩
theorem sorted_list {d d' : Array Int} (hs : SortedIn ltB 0 d.size d') (hz : d'.size = d.size) : d'.toList.Pairwise (fun x y => x ≤ y) := by
  rw [List.pairwise_iff_getElem]
  intro i j hi hj hij
  have h := hs i j (Nat.zero_le _) hij (by simp at hj; omega)
  have hi' : i < d'.size := by simpa using hi
  have hj' : j < d'.size := by simpa using hj
  rw [getElem!_pos d' i hi', getElem!_pos d' j hj'] at h
  simp only [ltB, decide_eq_false_iff_not] at h
  simp only [Array.getElem_toList]
  omega
theorem short {l : List Int} (h : l.length ≤ 1) : l.Pairwise (fun x y => x ≤ y) := by
  cases l with
  | nil => exact .nil
  | cons x r =>
    cases r with
    | nil => exact List.pairwise_singleton _ _
    | cons y r => simp at h
/-- a list in order is the only one of its members -/
theorem perm_sorted : ∀ {a b : List Int}, a.Perm b → a.Pairwise (· ≤ ·) → b.Pairwise (· ≤ ·) → a = b
  | [], b, h, _, _ => (List.Perm.nil_eq h)
  | x :: a, [], h, _, _ => by have := h.length_eq; simp at this
  | x :: a, y :: b, h, ha, hb => by
    obtain ⟨h1, h2⟩ := List.pairwise_cons.1 ha
    obtain ⟨h3, h4⟩ := List.pairwise_cons.1 hb
    have hxy : x = y := by
      have hx : x ∈ y :: b := h.subset (List.mem_cons_self ..)
      have hy : y ∈ x :: a := h.symm.subset (List.mem_cons_self ..)
      rcases List.mem_cons.1 hx with e | hx
      · exact e
      · rcases List.mem_cons.1 hy with e | hy
        · exact e.symm
        · have := h1 y hy; have := h3 x hx; omega
    subst hxy
    rw [perm_sorted ((List.perm_cons x).1 h) h2 h4]
end Sa

set_option maxHeartbeats 2000000 in
/-- the closure: the numbers at two places are compared -/
theorem less_at (blk off c Bs size : Nat) (W : World) (G : Nat → Int) (hs : W.cell? ⟨Bs, 0, none⟩ = some (.slice (some ⟨blk, off, none⟩) size c))
    (hc : ∀ t, t < size → W.cell? ⟨blk, off + t, none⟩ = some (.int .u64 (G t))) (i j : Nat) (hi : i < size) (hj : j < size) (_hsz : size ≤ 1000000) :
    Calls Try.prog 34 #[.int .i64 i, .int .i64 j, .pointer (some ⟨Bs, 0, none⟩)] W fun e w' => e = .returned (.bool (decide (G i < G j))) ∧ ∃ q, w' = W.drewN q := by
  have ci := hc i hi
  have cj := hc j hj
  clear hc
  generalize G i = gi at ci ⊢
  generalize G j = gj at cj ⊢
  go_enter Try.func34, Try.ntmps34
  go_wp2
  go_quiet (fail)
  go_wp2
  go_ret
  exact ⟨rfl, nq, rfl⟩

set_option maxHeartbeats 2000000 in
theorem sort_asc (w : World) (base B cap : Nat) (ao : Option Addr) (l : List Int) (hB : w.cell? ⟨B, 0, none⟩ = some (.slice ao l.length cap)) (hne : ∀ g, (Value.slice ao l.length cap).ownBlock = some g → B ≠ g) (hl : l.length ≤ 1000)
    (hrow : U64s w base (.slice ao l.length cap) l) :
    Calls Try.prog 33 #[.iface 22 (.slice ao l.length cap), .func (.func 34) #[] #[.pointer (some ⟨B, 0, none⟩)]] w fun e w' =>
      e = .returned (.tuple #[]) ∧ ∃ l', l'.Perm l ∧ l'.Pairwise (· ≤ ·) ∧ U64s w' base (.slice ao l.length cap) l' ∧ Only (fun k => (Value.slice ao l.length cap).ownBlock = some k) w w' := by
  have hBl : B < w.heap.size := World.block_lt_of_cell? w _ hB
  by_cases h1 : l.length ≤ 1
  · obtain ⟨f, hK⟩ : ∃ f, Try.prog.funcs.findIdx? (·.name == "internal/reflectlite" ++ ".Swapper$" ++ toString (swapperK l.length Sa.siE 11)) = some f := by
      by_cases h0 : l.length = 0
      · exact ⟨80, by rw [h0]; kernel_rfl⟩
      · exact ⟨81, by rw [show l.length = 1 by omega]; kernel_rfl⟩
    have hS := Any.sort_Slice_tiny Try.laysGg6 22 28 Sa.siT Sa.siE (by kernel_rfl) (by kernel_rfl) (by kernel_rfl) (by kernel_rfl) 11 (fun _ => by kernel_rfl) ao l.length cap h1 f hK (.func 34) #[] #[.pointer (some ⟨B, 0, none⟩)] w
    change Calls Try.prog 33 _ _ _ at hS
    refine hS.mono ?_
    rintro e w' ⟨rfl, os, rfl⟩
    have hg := Sa.grownBy_grow w os
    have hO := Only.of_grown hg
    exact ⟨rfl, l, .refl _, Sa.short h1, hrow.keeps' hO (fun k _ h => by cases h), hO.mono (fun k h => by cases h)⟩
  · obtain ⟨g, cap', e', _, hgl, _, _, _, hH⟩ := holds_of_ownsRow (enc := Value.int .u64) hrow (by intro h; have := (Value.slice.inj h).2.1; omega)
    cases e'
    have h2 : 2 ≤ l.toArray.size := by simp; omega
    have hsz : l.toArray.size = l.length := by simp
    have hless : LessReads Try.prog 34 #[.pointer (some ⟨B, 0, none⟩)] (Value.int .u64) Sa.ltB g 0 l.toArray.size w := by
      intro m os dk hs i j hi hj
      have e : sortWorld (Value.int .u64) w g 0 m dk os = putRow (Value.int .u64) (grow (Sort.ahead w m) os) g 0 dk := by
        unfold sortWorld; rw [putRow_grow _ (Sort.ahead w m) _ g 0 _ hgl]
      have hHg : Holds (Value.int .u64) (grow (Sort.ahead w m) os) g 0 l.toArray := holds_grow _ _ _ g 0 l.toArray hgl (holds_ahead _ _ _ _ _ _ hH)
      refine less_at g 0 cap B l.toArray.size _ (fun t => dk[t]!) ?_ (fun t ht => ?_) i j hi hj (by rw [hsz]; omega)
      · rw [e, cell?_putRow_other _ _ g 0 dk _ (Or.inl (by exact hne g rfl)), cell?_grow _ _ _ (by show B < w.heap.size; exact hBl)]
        show w.cell? _ = _
        rw [hB, hsz]
      · rw [e]; exact cell?_putRow _ _ g 0 l.toArray dk hHg hs t (by omega)
    have hS := Any.sort_Slice_sorted Try.laysGg6 22 28 Sa.siT Sa.siE (by kernel_rfl) (by kernel_rfl) (by kernel_rfl) (by kernel_rfl) 11 (fun _ => by kernel_rfl) (by kernel_rfl) (fun _ => by kernel_rfl) (Value.int .u64) (fun _ => rfl) Sa.ltB Sa.swo 34 _
      (enters_of Try.func34 (by kernel_rfl) rfl) g 0 cap l.toArray h2 (by rw [hsz]; omega) 84 (by rw [Sa.siK _ h2]; kernel_rfl) true
      (fun args W => run_callFunc_extern Try.func84 (by kernel_rfl) (by kernel_rfl) (by kernel_rfl) (e := Extern.ReflectliteSwapper.swap true) (by kernel_rfl) args W) _ hless hH hgl
    change Calls Try.prog 33 _ _ _ at hS
    rw [hsz] at hS
    refine hS.mono ?_
    rintro e w' ⟨rfl, d', n, os, hp, hso, rfl⟩
    have hz : d'.size = l.toArray.size := hp.1
    have hpp := hp.2.2
    have e1 : d'.extract 0 l.length = d' := by rw [← hsz, ← hz]; exact Array.extract_size
    have e2 : l.toArray.extract 0 l.length = l.toArray := by rw [← hsz]; exact Array.extract_size
    rw [e1, e2] at hpp
    have hdl : d'.toList.length = l.length := by simp [hz]
    have hg := Sa.grownBy_sorted (Value.int .u64) (w := w) (g := g) (n := n) (os := os) d'
    have hperm : d'.toList.Perm l := hpp
    refine ⟨rfl, d'.toList, hperm, Sa.sorted_list (d := l.toArray) (by rw [hsz]; exact hso) hz, ?_, (Only.of_grown hg).mono (fun i hi => by cases hi; rfl)⟩
    have hr := ownsRow_putRow (enc := Value.int .u64) (q := n) (k := l.length) (ys := d'.toList) hrow hdl (Nat.le_refl _)
    rw [List.take_of_length_le (by rw [hdl]; exact Nat.le_refl _)] at hr
    have hk := hr.kept (Sa.grownBy_grow (putRow (Value.int .u64) (Sort.ahead w n) g 0 d'.toList.toArray) os) (.inr (by intro h; cases h))
    unfold U64s
    rw [hdl]
    exact hk
end Go.Proofs.Ytogeeeigfhmpmaa
