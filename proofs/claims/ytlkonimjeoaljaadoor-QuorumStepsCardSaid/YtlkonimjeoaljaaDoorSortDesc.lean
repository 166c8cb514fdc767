/- The library's sort.Slice at a short row of unsigned numbers, the greatest first: by the kit's contract. -/
import Derived.Test.YtlkonimjeoaljaaDoorU64
import Derived.Test.YtlkonimjeoaljaaDoorShelf6
import Derived.Shelf.GgSortFunc.Small
import Derived.Shelf.GgSortFunc.Tiny
import Derived.Lib.OwnBridge
import Derived.Lib.RowBridge
import Derived.Sort.LotA
namespace Go.Proofs.YtlkonimjeoaljaaDoor
open Go.Shelf Go.RowKit Go.Lib Go.Sort

namespace Sd
def gtB (x y : Int) : Bool := decide (y < x)
theorem swo : SWO gtB where
  irrefl := fun x => by simp [gtB]
  trans := fun x y z h1 h2 => by simp only [gtB, decide_eq_true_eq] at *; omega
  ntrans := fun x y z h1 h2 => by simp only [gtB, decide_eq_false_iff_not] at *; omega
/-- the greatest first -/
def desc (l : List Int) : List Int := l.mergeSort (fun x y => decide (y ≤ x))
theorem desc_length (l : List Int) : (desc l).length = l.length := List.length_mergeSort l
theorem desc_eq (l : List Int) (d' : Array Int) (hp : PermIn 0 l.toArray.size l.toArray d') (hs : SortedIn gtB 0 l.toArray.size d') : d' = (desc l).toArray := by
  have h := sorted_unique_holds (lt := gtB) swo (fun x y h1 h2 => by simp only [gtB, decide_eq_false_iff_not] at h1 h2; omega) l.toArray d' hp hs
  have e : (fun x y : Int => !gtB y x) = fun x y => decide (y ≤ x) := by
    funext x y
    simp only [gtB]
    by_cases h : y ≤ x
    · first | (simp [h]; done) | (simp [h]; omega)
    · first | (simp [h]; done) | (simp [h]; omega)
  rw [e] at h
  apply Array.ext'
  exact h

noncomputable def siT : TypeInfo := (Tryd.prog.info? 23).get (by kernel_rfl)
noncomputable def siE : TypeInfo := (Tryd.prog.info? 22).get (by kernel_rfl)
theorem siK (n : Nat) (h2 : 2 ≤ n) : Lib.swapperK n siE 11 = 5 := by
  have a : siE.hasPointers = false := by kernel_rfl
  have b : siE.bytes = 8 := by kernel_rfl
  have c : (n == 0) = false := by simp; omega
  have d : (n == 1) = false := by simp; omega
  simp [Lib.swapperK, a, b, c, d]

theorem heap_ahead (w : World) (n : Nat) : (Sort.ahead w n).heap = w.heap := rfl
theorem grownBy_sorted (enc : Int → Value) {w : World} {g n : Nat} {os : Array Obj} (d : Array Int) : w.grownBy (grow (putRow enc (Sort.ahead w n) g 0 d) os) (some g) := by
  refine ⟨rfl, rfl, rfl, by simp [grow, putRow, mapBlock, Sort.ahead], fun k hk hne => ?_⟩
  rw [heap_grow_old _ _ (by simpa [putRow, mapBlock, Sort.ahead] using hk)]
  have : g ≠ k := fun e => hne (by rw [e])
  simp [putRow, mapBlock, Sort.ahead, Array.getElem?_modify, this]
theorem grownBy_grow (w : World) (os : Array Obj) : w.grownBy (grow w os) none :=
  ⟨rfl, rfl, rfl, by simp [grow], fun k hk _ => heap_grow_old _ _ hk⟩
end Sd

set_option maxHeartbeats 2000000 in
/-- the closure: the numbers at two places are compared -/
theorem greater_at (blk off c Bs size : Nat) (W : World) (G : Nat → Int) (hs : W.cell? ⟨Bs, 0, none⟩ = some (.slice (some ⟨blk, off, none⟩) size c))
    (hc : ∀ t, t < size → W.cell? ⟨blk, off + t, none⟩ = some (.int .u64 (G t))) (i j : Nat) (hi : i < size) (hj : j < size) (hsz : size ≤ 1000000) :
    Calls Tryd.prog 26 #[.int .i64 i, .int .i64 j, .pointer (some ⟨Bs, 0, none⟩)] W fun e w' => e = .returned (.bool (decide (G j < G i))) ∧ ∃ q, w' = W.drewN q := by
  have ci := hc i hi
  have cj := hc j hj
  clear hc
  generalize G i = gi at ci ⊢
  generalize G j = gj at cj ⊢
  go_enter Tryd.func26, Tryd.ntmps26
  go_wp2
  go_quiet (fail)
  go_wp2
  go_ret
  exact ⟨rfl, nq, rfl⟩

set_option maxHeartbeats 2000000 in
theorem sort_desc (w : World) (base B g cap : Nat) (l : List Int) (hB : w.cell? ⟨B, 0, none⟩ = some (.slice (some ⟨g, 0, none⟩) l.length cap)) (hne : B ≠ g) (hl1 : 1 ≤ l.length) (hl7 : l.length ≤ 7)
    (hrow : U64s w base (.slice (some ⟨g, 0, none⟩) l.length cap) l) :
    Calls Tryd.prog 25 #[.iface 23 (.slice (some ⟨g, 0, none⟩) l.length cap), .func (.func 26) #[] #[.pointer (some ⟨B, 0, none⟩)]] w fun e w' =>
      e = .returned (.tuple #[]) ∧ U64s w' base (.slice (some ⟨g, 0, none⟩) l.length cap) (Sd.desc l) ∧ Only (fun k => k = g) w w' := by
  obtain ⟨g', cap', e', _, hgl, _, _, _, hH⟩ := holds_of_ownsRow (enc := Value.int .u64) hrow (by intro h; cases h)
  cases e'
  have hBl : B < w.heap.size := World.block_lt_of_cell? w _ hB
  by_cases h1 : l.length = 1
  · have hK : Lib.swapperK l.length Sd.siE 11 = 2 := by rw [h1]; simp [Lib.swapperK]
    have hS := Any.sort_Slice_tiny Tryd.laysGg6 23 22 Sd.siT Sd.siE (by kernel_rfl) (by kernel_rfl) (by kernel_rfl) (by kernel_rfl) 11 (fun _ => by kernel_rfl) (some ⟨g, 0, none⟩) l.length cap (by omega) 35 (by rw [hK]; kernel_rfl) (.func 26) #[] #[.pointer (some ⟨B, 0, none⟩)] w
    change Calls Tryd.prog 25 _ _ _ at hS
    refine hS.mono ?_
    rintro e w' ⟨rfl, os, rfl⟩
    have hd : Sd.desc l = l := by
      cases l with
      | nil => simp at h1
      | cons x r =>
        cases r with
        | nil => unfold Sd.desc; exact List.mergeSort_singleton ..
        | cons y r => simp at h1
    rw [hd]
    have hg := Sd.grownBy_grow w os
    exact ⟨rfl, hrow.kept hg (.inr (by intro h; cases h)), (Only.of_grown hg).mono (fun i hi => by cases hi)⟩
  · have h2 : 2 ≤ l.toArray.size := by simp; omega
    have h12 : l.toArray.size ≤ 12 := by simp; omega
    have hsz : l.toArray.size = l.length := by simp
    have hless : LessReads Tryd.prog 26 #[.pointer (some ⟨B, 0, none⟩)] (Value.int .u64) Sd.gtB g 0 l.toArray.size w := by
      intro m os dk hs i j hi hj
      have e : sortWorld (Value.int .u64) w g 0 m dk os = putRow (Value.int .u64) (grow (Sort.ahead w m) os) g 0 dk := by
        unfold sortWorld; rw [putRow_grow _ (Sort.ahead w m) _ g 0 _ hgl]
      have hHg : Holds (Value.int .u64) (grow (Sort.ahead w m) os) g 0 l.toArray := holds_grow _ _ _ g 0 l.toArray hgl (holds_ahead _ _ _ _ _ _ hH)
      refine greater_at g 0 cap B l.toArray.size _ (fun t => dk[t]!) ?_ (fun t ht => ?_) i j hi hj (by omega)
      · rw [e, cell?_putRow_other _ _ g 0 dk _ (Or.inl hne), cell?_grow _ _ _ (by show B < w.heap.size; exact hBl)]
        show w.cell? _ = _
        rw [hB, hsz]
      · rw [e]; exact cell?_putRow _ _ g 0 l.toArray dk hHg hs t (by omega)
    have hS := Any.sort_Slice_small_sorted Tryd.laysGg6 23 22 Sd.siT Sd.siE (by kernel_rfl) (by kernel_rfl) (by kernel_rfl) (by kernel_rfl) 11 (fun _ => by kernel_rfl) (by kernel_rfl) (fun _ => by kernel_rfl) (Value.int .u64) (fun _ => rfl) Sd.gtB Sd.swo 26 _
      (enters_of Tryd.func26 (by kernel_rfl) rfl) g 0 cap l.toArray h2 h12 38 (by rw [Sd.siK _ h2]; kernel_rfl) true
      (fun args W => run_callFunc_extern Tryd.func38 (by kernel_rfl) (by kernel_rfl) (by kernel_rfl) (e := Extern.ReflectliteSwapper.swap true) (by kernel_rfl) args W) _ hless hH hgl
    change Calls Tryd.prog 25 _ _ _ at hS
    rw [hsz] at hS
    refine hS.mono ?_
    rintro e w' ⟨rfl, d', n, os, hp, hso, rfl⟩
    have hd := Sd.desc_eq l d' (by rw [hsz]; exact hp) (by rw [hsz]; exact hso)
    subst hd
    have hg := Sd.grownBy_sorted (Value.int .u64) (w := w) (g := g) (n := n) (os := os) (Sd.desc l).toArray
    refine ⟨rfl, ?_, (Only.of_grown hg).mono (fun i hi => by cases hi; rfl)⟩
    have hr := ownsRow_putRow (enc := Value.int .u64) (q := n) (k := l.length) (ys := Sd.desc l) hrow (Sd.desc_length l) (Nat.le_refl _)
    rw [List.take_of_length_le (by rw [Sd.desc_length]; exact Nat.le_refl _)] at hr
    have hk := hr.kept (Sd.grownBy_grow (putRow (Value.int .u64) (Sort.ahead w n) g 0 (Sd.desc l).toArray) os) (.inr (by intro h; cases h))
    unfold U64s
    rw [Sd.desc_length]
    exact hk

end Go.Proofs.YtlkonimjeoaljaaDoor
