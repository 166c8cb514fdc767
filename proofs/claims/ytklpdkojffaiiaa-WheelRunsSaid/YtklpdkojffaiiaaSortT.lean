/- The library's sort.Slice at a row of timers, by their turns. -/
import Derived.Test.YtklpdkojffaiiaaWheelT
import Derived.Test.YtklpdkojffaiiaaShelf9
import Derived.Shelf.SlSortFuncK.WholeK
import Derived.Shelf.GgSortFunc.Tiny
import Derived.Sort.LotA
namespace Go.Proofs.Ytklpdkojffaiiaa
open Go.Shelf Go.RowKit Go.Lib Go.Sort
set_option maxRecDepth 100000

instance : Inhabited Wh.Tm := ⟨Wh.Tm.zero⟩
namespace St
def ltT (x y : Wh.Tm) : Bool := decide (x.turn < y.turn)
theorem swo : SWO ltT where
  irrefl := fun x => by simp [ltT]
  trans := fun x y z h1 h2 => by simp only [ltT, decide_eq_true_eq] at *; omega
  ntrans := fun x y z h1 h2 => by simp only [ltT, decide_eq_false_iff_not] at *; omega
noncomputable def siT : TypeInfo := (Try.prog.info? 47).get (by kernel_rfl)
noncomputable def siE : TypeInfo := (Try.prog.info? 53).get (by kernel_rfl)
theorem siK (n : Nat) (h2 : 2 ≤ n) : Lib.swapperK n siE 25 = 9 := by
  have a : siE.hasPointers = false := by kernel_rfl
  have b : siE.bytes = 24 := by kernel_rfl
  have c : (n == 0) = false := by simp; omega
  have d : (n == 1) = false := by simp; omega
  simp [Lib.swapperK, a, b, c, d]
/-- a row that is read -/
def Rd (w : World) (ao : Option Addr) (l : List Wh.Tm) : Prop := ∀ i, i < l.length → ∃ g, ao = some ⟨g, 0, none⟩ ∧
    w.cell? ⟨g, i * 3, none⟩ = some (.int .i64 (l.getD i Wh.Tm.zero).id) ∧ w.cell? ⟨g, i * 3 + 1, none⟩ = some (.int .u64 (l.getD i Wh.Tm.zero).due) ∧ w.cell? ⟨g, i * 3 + 2, none⟩ = some (.int .i64 (l.getD i Wh.Tm.zero).turn)
theorem Rd.keeps {S : Nat → Prop} {w w' : World} {ao : Option Addr} {l : List Wh.Tm} (h : Rd w ao l) (ho : Only S w w') (hs : ∀ g, ao = some ⟨g, 0, none⟩ → ¬ S g) : Rd w' ao l := fun i hi => by
  obtain ⟨g, hg, h0, h1, h2⟩ := h i hi
  have hb : w'.heap[g]? = w.heap[g]? := ho.block g (World.block_lt_of_cell? w _ h0) (hs g hg)
  exact ⟨g, hg, (World.cell?_of_block (a := ⟨g, i * 3, none⟩) hb).trans h0, (World.cell?_of_block (a := ⟨g, i * 3 + 1, none⟩) hb).trans h1, (World.cell?_of_block (a := ⟨g, i * 3 + 2, none⟩) hb).trans h2⟩
theorem rd_of {w : World} {base cap : Nat} {ao : Option Addr} {l : List Wh.Tm} (h : Wh.Tms w base (.slice ao l.length cap) l) : Rd w ao l := fun _ hi => h.cell hi
theorem holds_of {w : World} {base g cap : Nat} {l : List Wh.Tm} (h : Wh.Tms w base (.slice (some ⟨g, 0, none⟩) l.length cap) l) : HoldsK Wh.Tm.cells 3 w g 0 l.toArray := by
  intro j hj
  rw [size_flatK] at hj
  have hj' : j < l.length * 3 := by simpa using hj
  rw [get_flatK _ _ _ _ hj]
  rcases h.lie with ⟨e, _⟩ | ⟨g', cs, e, _, hg, _⟩
  · cases e
  · cases e
    constructor
    · have hc := h.cellAt rfl (i := j / 3) (j := j % 3) (by omega) (by omega)
      have e1 : j / 3 * 3 + j % 3 = j := by omega
      rw [e1] at hc
      rw [Nat.zero_add]
      refine hc.trans ?_
      have e2 : l.toArray[j / 3]! = l.getD (j / 3) Wh.Tm.zero := by
        rw [List.getD_eq_getElem?_getD, List.getElem?_eq_getElem (by omega), getElem!_pos l.toArray (j / 3) (by simp; omega)]
        simp
      rw [e2]
      have h3 : j % 3 < (l.getD (j / 3) Wh.Tm.zero).cells.length := by show j % 3 < 3; omega
      rw [List.getElem?_eq_getElem h3, getElem!_pos (l.getD (j / 3) Wh.Tm.zero).cells (j % 3) h3]
      rfl
    · rw [Nat.zero_add]
      simp [World.frozen?, hg]
theorem rd_holds {w : World} {g : Nat} {d : Array Wh.Tm} (h : HoldsK Wh.Tm.cells 3 w g 0 d) : Rd w (some ⟨g, 0, none⟩) d.toList := fun i hi => by
  have hi' : i < d.size := by simpa using hi
  have e2 : d.toList.getD i Wh.Tm.zero = d[i]! := by
    rw [List.getD_eq_getElem?_getD, List.getElem?_eq_getElem hi, getElem!_pos d i hi']
    simp
  rw [e2]
  have c0 := (h.cell (i := i) (c := 0) hi' (by decide)).1
  have c1 := (h.cell (i := i) (c := 1) hi' (by decide)).1
  have c2 := (h.cell (i := i) (c := 2) hi' (by decide)).1
  rw [Nat.zero_add] at c0 c1 c2
  exact ⟨g, rfl, c0, c1, c2⟩
theorem heap_ahead (w : World) (n : Nat) : (Sort.ahead w n).heap = w.heap := rfl
theorem grownBy_sorted {w : World} {g n : Nat} {os : Array Obj} (d : Array Wh.Tm) : w.grownBy (grow (putRowK Wh.Tm.cells 3 (Sort.ahead w n) g 0 d) os) (some g) := by
  refine ⟨rfl, rfl, rfl, by simp [grow, putRowK, putRow, mapBlock, Sort.ahead], fun k hk hne => ?_⟩
  rw [heap_grow_old _ _ (by simpa [putRowK, putRow, mapBlock, Sort.ahead] using hk)]
  have : g ≠ k := fun e => hne (by rw [e])
  simp [putRowK, putRow, mapBlock, Sort.ahead, Array.getElem?_modify, this]
theorem grownBy_grow (w : World) (os : Array Obj) : w.grownBy (grow w os) none :=
  ⟨rfl, rfl, rfl, by simp [grow], fun k hk _ => heap_grow_old _ _ hk⟩
theorem short {l : List Wh.Tm} (h : l.length ≤ 1) : l.Pairwise (fun x y => x.turn ≤ y.turn) := by
  cases l with
  | nil => exact .nil
  | cons x r =>
    cases r with
    | nil => exact List.pairwise_singleton _ _
    | cons y r => simp at h
theorem sorted_list {d d' : Array Wh.Tm} (hs : SortedIn ltT 0 d.size d') (hz : d'.size = d.size) : d'.toList.Pairwise (fun x y => x.turn ≤ y.turn) := by
  rw [List.pairwise_iff_getElem]
  intro i j hi hj hij
  have h := hs i j (Nat.zero_le _) hij (by simp at hj; omega)
  have hi' : i < d'.size := by simpa using hi
  have hj' : j < d'.size := by simpa using hj
  rw [getElem!_pos d' i hi', getElem!_pos d' j hj'] at h
  simp only [ltT, decide_eq_false_iff_not] at h
  simp only [Array.getElem_toList]
  omega
end St

set_option maxHeartbeats 2000000 in
/-- the closure: the turns of two are compared -/
theorem turns_at (blk off c Bs size : Nat) (W : World) (G : Nat → Int) (hs : W.cell? ⟨Bs, 0, none⟩ = some (.slice (some ⟨blk, off, none⟩) size c))
    (hc : ∀ t, t < size → W.cell? ⟨blk, off + t * 3 + 2, none⟩ = some (.int .i64 (G t))) (i j : Nat) (hi : i < size) (hj : j < size) (_hsz : size ≤ 1000000) :
    Calls Try.prog 26 #[.int .i64 i, .int .i64 j, .pointer (some ⟨Bs, 0, none⟩)] W fun e w' => e = .returned (.bool (decide (G i < G j))) ∧ ∃ q, w' = W.drewN q := by
  have ci := hc i hi
  have cj := hc j hj
  clear hc
  generalize G i = gi at ci ⊢
  generalize G j = gj at cj ⊢
  go_enter Try.func26, Try.ntmps26
  go_wp2
  go_quiet (fail)
  go_wp2
  go_ret
  exact ⟨rfl, nq, rfl⟩

set_option maxHeartbeats 2000000 in
theorem sort_turns (w : World) (base B cap : Nat) (ao : Option Addr) (l : List Wh.Tm) (hB : w.cell? ⟨B, 0, none⟩ = some (.slice ao l.length cap)) (hne : ∀ g, ao = some ⟨g, 0, none⟩ → B ≠ g)
    (hT : Wh.Tms w base (.slice ao l.length cap) l) :
    Calls Try.prog 25 #[.iface 47 (.slice ao l.length cap), .func (.func 26) #[] #[.pointer (some ⟨B, 0, none⟩)]] w fun e w' =>
      e = .returned (.tuple #[]) ∧ ∃ l', l'.Perm l ∧ l'.Pairwise (fun x y => x.turn ≤ y.turn) ∧ St.Rd w' ao l' ∧ Only (fun k => (Value.slice ao l.length cap).ownBlock = some k) w w' := by
  have hBl : B < w.heap.size := World.block_lt_of_cell? w _ hB
  have hml := hT.2.2
  by_cases h1 : l.length ≤ 1
  · obtain ⟨f, hK⟩ : ∃ f, Try.prog.funcs.findIdx? (·.name == "internal/reflectlite" ++ ".Swapper$" ++ toString (swapperK l.length St.siE 25)) = some f := by
      by_cases h0 : l.length = 0
      · exact ⟨34, by rw [h0]; kernel_rfl⟩
      · exact ⟨35, by rw [show l.length = 1 by omega]; kernel_rfl⟩
    have hS := Any.sort_Slice_tiny Try.laysGg6 47 53 St.siT St.siE (by kernel_rfl) (by kernel_rfl) (by kernel_rfl) (by kernel_rfl) 25 (fun _ => by kernel_rfl) ao l.length cap h1 f hK (.func 26) #[] #[.pointer (some ⟨B, 0, none⟩)] w
    change Calls Try.prog 25 _ _ _ at hS
    refine hS.mono ?_
    rintro e w' ⟨rfl, os, rfl⟩
    have hg := Only.of_grown (St.grownBy_grow w os)
    exact ⟨rfl, l, .refl _, St.short h1, (St.rd_of hT).keeps hg (fun g _ h => by cases h), hg.mono (fun k h => by cases h)⟩
  · rcases hT.lie with ⟨_, e, _⟩ | ⟨g, cs, rfl, _, hg, _⟩
    · rw [e] at h1; simp at h1
    · have h2 : 2 ≤ l.toArray.size := by simp; omega
      have hgl : g < w.heap.size := (Array.getElem?_eq_some_iff.1 hg).1
      have hH := St.holds_of hT
      have hsz : l.toArray.size = l.length := by simp
      have hless : LessReadsK Try.prog 26 #[.pointer (some ⟨B, 0, none⟩)] Wh.Tm.cells 3 St.ltT g 0 l.toArray.size w := by
        intro m os dk hs i j hi hj
        have e : sortWorldK Wh.Tm.cells 3 w g 0 m dk os = putRowK Wh.Tm.cells 3 (grow (Sort.ahead w m) os) g 0 dk := by
          unfold sortWorldK; rw [putRowK_grow _ _ (Sort.ahead w m) _ g 0 _ hgl]
        have hHg : HoldsK Wh.Tm.cells 3 (grow (Sort.ahead w m) os) g 0 l.toArray := holdsK_grow _ _ _ _ g 0 l.toArray hgl (holdsK_ahead _ _ _ _ _ _ _ hH)
        refine turns_at g 0 cap B l.toArray.size _ (fun t => dk[t]!.turn) ?_ (fun t ht => ?_) i j hi hj (by omega)
        · rw [e, cell?_putRowK_other _ _ _ g 0 dk _ (by exact hne g rfl), cell?_grow _ _ _ (by show B < w.heap.size; exact hBl)]
          show w.cell? _ = _
          rw [hB, hsz]
        · rw [e]; exact ((holdsK_putRowK _ _ _ g 0 l.toArray dk hHg hs).cell (i := t) (c := 2) (by omega) (by omega)).1
      have hS := Any.sort_Slice_cells_sorted Try.laysGg6 47 53 St.siT St.siE (by kernel_rfl) (by kernel_rfl) (by kernel_rfl) (by kernel_rfl) 25 (fun _ => by kernel_rfl) Wh.Tm.cells 3 (fun _ => rfl) (by kernel_rfl) (fun _ => by kernel_rfl)
        (fun x v hv => by simp [Wh.Tm.cells] at hv; rcases hv with rfl | rfl | rfl <;> rfl) St.ltT St.swo 26 _
        (enters_of Try.func26 (by kernel_rfl) rfl) g 0 cap l.toArray h2 (by omega) 42 (by rw [St.siK _ h2]; kernel_rfl) false
        (fun args W => run_callFunc_extern Try.func42 (by kernel_rfl) (by kernel_rfl) (by kernel_rfl) (e := Extern.ReflectliteSwapper.swap false) (by kernel_rfl) args W) _ hless hH hgl
      change Calls Try.prog 25 _ _ _ at hS
      rw [hsz] at hS
      refine hS.mono ?_
      rintro e w' ⟨rfl, d', n, os, hp, hso, rfl⟩
      have hz : d'.size = l.toArray.size := hp.1
      have hHd : HoldsK Wh.Tm.cells 3 (grow (putRowK Wh.Tm.cells 3 (Sort.ahead w n) g 0 d') os) g 0 d' := holdsK_grow _ _ _ _ g 0 d' (by rw [size_putRowK]; exact hgl) (holdsK_putRowK _ _ _ g 0 l.toArray d' (holdsK_ahead _ _ _ _ _ _ _ hH) hz)
      refine ⟨rfl, d'.toList, ?_, St.sorted_list (d := l.toArray) (by rw [hsz]; exact hso) hz, St.rd_holds hHd, (Only.of_grown (St.grownBy_sorted d')).mono (fun k h => by simpa [Value.ownBlock] using h)⟩
      have hpp := hp.2.2
      have e1 : d'.extract 0 l.length = d' := by rw [← hsz, ← hz]; exact Array.extract_size
      have e2 : l.toArray.extract 0 l.length = l.toArray := by rw [← hsz]; exact Array.extract_size
      rw [e1, e2] at hpp
      exact hpp
end Go.Proofs.Ytklpdkojffaiiaa
