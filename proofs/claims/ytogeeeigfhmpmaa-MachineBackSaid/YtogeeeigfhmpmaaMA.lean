/- What the statements of this seat lean on, part A: what the program's and the document's functions compute, in plain data. -/
import Derived.WalkKit
import Derived.WalkSpells
import Derived.WalkLawsBesides
import Derived.Deep.QuietTactic
import Derived.BigQuiet
import Derived.RegionTactic
import Derived.BigRegion
import Derived.ChangeAlike
import Derived.StillTailTactics
import Derived.Deep.RegionLaw
import Derived.LoopTactic
import Derived.Outline
import Derived.Deep.DeepFit
import Derived.Deep.DeepCutAuto
import Derived.Lib.Hide
import Derived.OwnWalk
import Derived.Laws.AppendOwn
import Derived.Laws.OwnMore
import Derived.OneCell
import Derived.Maps.OwnSet
import Derived.Maps.RangeWalk
import Derived.Maps.AppendAt
import Derived.Test.YtogeeeigfhmpmaaProg
import Derived.Deep.RegionHeld3
import Derived.Laws.BitsLemmas
import Derived.IntWalk
import Derived.Laws.MakeOwn
import Derived.Lib.ConvBytes
import Derived.Laws.IdiomStrings

/- Plain words that all texts of this seat share: which blocks of the memory a call may have changed; a block of cells known whole. -/
namespace Go.Proofs.Ytogeeeigfhmpmaa
open Go.RowKit Go.Maps

/-- Of the blocks that w has only those of S may have changed; the streams are as they were. -/
structure Only (S : Nat → Prop) (w w' : World) : Prop where
  os : w'.os = w.os
  tape : w'.tape = w.tape
  output : w'.output = w.output
  size : w.heap.size ≤ w'.heap.size
  block : ∀ k, k < w.heap.size → ¬ S k → w'.heap[k]? = w.heap[k]?

def NoBlock : Nat → Prop := fun _ => False

theorem Only.refl (S : Nat → Prop) (w : World) : Only S w w := ⟨rfl, rfl, rfl, Nat.le_refl _, fun _ _ _ => rfl⟩
theorem Only.trans {S : Nat → Prop} {a b c : World} (h : Only S a b) (k : Only S b c) : Only S a c :=
  ⟨k.os.trans h.os, k.tape.trans h.tape, k.output.trans h.output, Nat.le_trans h.size k.size, fun i hi hs => (k.block i (Nat.lt_of_lt_of_le hi h.size) hs).trans (h.block i hi hs)⟩
theorem Only.mono {S T : Nat → Prop} {a b : World} (h : Only S a b) (hst : ∀ k, S k → T k) : Only T a b :=
  ⟨h.os, h.tape, h.output, h.size, fun i hi hs => h.block i hi (fun hh => hs (hst i hh))⟩
theorem Only.of_no {S : Nat → Prop} {a b : World} (h : Only NoBlock a b) : Only S a b := h.mono (fun _ h => h.elim)
/-- what T says of blocks that are newer than a plays no part -/
theorem Only.andThen {S T : Nat → Prop} {a b c : World} (h : Only S a b) (k : Only T b c) (hst : ∀ i, i < a.heap.size → T i → S i) : Only S a c :=
  ⟨k.os.trans h.os, k.tape.trans h.tape, k.output.trans h.output, Nat.le_trans h.size k.size,
   fun i hi hs => (k.block i (Nat.lt_of_lt_of_le hi h.size) (fun ht => hs (hst i hi ht))).trans (h.block i hi hs)⟩
theorem Only.drew {S : Nat → Prop} {a b : World} (h : Only S a b) : Only S a b.drew := ⟨h.os, h.tape, h.output, h.size, h.block⟩
theorem Only.drewN {S : Nat → Prop} {a b : World} (h : Only S a b) (n : Nat) : Only S a (b.drewN n) := ⟨h.os, h.tape, h.output, h.size, h.block⟩
theorem Only.alloc {S : Nat → Prop} {a b : World} (h : Only S a b) (o : Obj) : Only S a (b.alloc o) :=
  h.andThen (T := NoBlock) ⟨rfl, rfl, rfl, by simp, fun k hk _ => Below.heap_alloc _ _ _ hk⟩ (fun _ _ h => h.elim)
theorem Only.setCell {S : Nat → Prop} {a b : World} (h : Only S a b) {p : Addr} (hp : p.block < a.heap.size → S p.block) (u : Value) : Only S a (b.setCell p u) :=
  h.andThen (T := fun k => k = p.block) ⟨rfl, rfl, rfl, by simp [World.setCell], fun k _ hk => Below.heap_setCell _ _ _ _ hk⟩ (fun i hi e => by subst e; exact hp hi)
theorem Only.grown {S : Nat → Prop} {a b c : World} {row : Option Nat} (h : Only S a b) (hg : b.grownBy c row) (hr : ∀ k, row = some k → k < a.heap.size → S k) : Only S a c :=
  h.andThen (T := fun k => row = some k) ⟨hg.os, hg.tape, hg.output, hg.size, fun k hk hs => hg.block k hk (fun e => hs e.symm)⟩ (fun i hi e => hr i e hi)
theorem Only.of_grown {b c : World} {row : Option Nat} (hg : b.grownBy c row) : Only (fun k => row = some k) b c := ⟨hg.os, hg.tape, hg.output, hg.size, fun k hk hs => hg.block k hk (fun e => hs e.symm)⟩
theorem Only.grownBy {b c : World} (h : Only NoBlock b c) : b.grownBy c none := ⟨h.os, h.tape, h.output, h.size, fun k hk _ => h.block k hk (fun h => h)⟩
theorem Only.keeps {S : Nat → Prop} {a b : World} (h : Only S a b) {k : Nat} {o : Obj} (hs : ¬ S k) (hk : a.heap[k]? = some o) : b.heap[k]? = some o :=
  (h.block k (lt_of_block hk) hs).trans hk
theorem Only.below {S : Nat → Prop} {N : Nat} {a b : World} (h : Only S a b) (hN : N ≤ a.heap.size) (hs : ∀ k, S k → N ≤ k) : Below N a b :=
  ⟨h.os, h.tape, h.output, h.size, fun k hk => h.block k (Nat.lt_of_lt_of_le hk hN) (fun hh => by have := hs k hh; omega)⟩
theorem Only.of_below {w w' : World} (h : Below w.heap.size w w') : Only NoBlock w w' := ⟨h.os, h.tape, h.output, h.size, fun k hk _ => h.block k hk⟩

/-- block b is these cells of type t, and may be written -/
def Blk (w : World) (b : Nat) (cs : Array Value) (t : TypeId) : Prop := w.heap[b]? = some (.cells cs t (0, 0))

theorem Blk.cell {w : World} {b : Nat} {cs : Array Value} {t : TypeId} (h : Blk w b cs t) (i : Nat) : w.cell? ⟨b, i, none⟩ = cs[i]? := by
  unfold Blk at h
  simp [World.cell?, h]
theorem Blk.free {w : World} {b : Nat} {cs : Array Value} {t : TypeId} (h : Blk w b cs t) (i : Nat) : w.frozen? ⟨b, i, none⟩ = false := by
  unfold Blk at h
  simp [World.frozen?, h]
theorem Blk.lt {w : World} {b : Nat} {cs : Array Value} {t : TypeId} (h : Blk w b cs t) : b < w.heap.size := lt_of_block h
theorem Blk.keeps {S : Nat → Prop} {w w' : World} {b : Nat} {cs : Array Value} {t : TypeId} (h : Blk w b cs t) (ho : Only S w w') (hs : ¬ S b) : Blk w' b cs t := ho.keeps hs h
theorem Blk.alloc {w : World} {b : Nat} {cs : Array Value} {t : TypeId} (h : Blk w b cs t) (o : Obj) : Blk (w.alloc o) b cs t := (Below.heap_alloc w o b h.lt).trans h
theorem Blk.made (w : World) (cs : Array Value) (t : TypeId) : Blk (w.alloc (.cells cs t)) w.heap.size cs t := heap_alloc_new w _
theorem Blk.setCell {w : World} {b : Nat} {cs : Array Value} {t : TypeId} (h : Blk w b cs t) (i : Nat) (v : Value) : Blk (w.setCell ⟨b, i, none⟩ v) b (cs.setIfInBounds i v) t := by
  have hlt := h.lt
  unfold Blk at h
  have h' : w.heap[b] = .cells cs t (0, 0) := by simpa [Array.getElem?_eq_getElem hlt] using h
  show (w.heap.modify b _)[b]? = _
  rw [Array.getElem?_eq_getElem (by simpa using hlt), Array.getElem_modify_self, h']
  rfl
theorem Blk.setCell_other {w : World} {b : Nat} {cs : Array Value} {t : TypeId} (h : Blk w b cs t) {p : Addr} (hp : b ≠ p.block) (v : Value) : Blk (w.setCell p v) b cs t :=
  (Below.heap_setCell w p v b hp).trans h
theorem Blk.drew {w : World} {b : Nat} {cs : Array Value} {t : TypeId} (h : Blk w b cs t) : Blk w.drew b cs t := h
theorem Blk.drewN {w : World} {b : Nat} {cs : Array Value} {t : TypeId} (h : Blk w b cs t) (n : Nat) : Blk (w.drewN n) b cs t := h

theorem row_keeps {S : Nat → Prop} {w w' : World} {base n size : Nat} {e : TypeId} {v : Value} {xs : List Value} (h : w.ownsRow base e size v n xs) (ho : Only S w w') (hs : ∀ k, v.ownBlock = some k → ¬ S k) : w'.ownsRow base e size v n xs := by
  obtain ⟨h1, h2⟩ := h
  refine ⟨h1, ?_⟩
  rcases h2 with h2 | ⟨g, cap, cur, rfl, hb, hg, r⟩
  · exact .inl h2
  · exact .inr ⟨g, cap, cur, rfl, hb, ho.keeps (hs g rfl) hg, r⟩
theorem cell_one_at (w : World) (v : Value) (t : TypeId) (n : Nat) (hn : n = w.heap.size) : ∀ j u, [v][j]? = some u → (w.alloc (.cells #[v] t)).cell? ((⟨n, 0, none⟩ : Addr).add j) = some u := by
  subst hn
  exact cell_one_new _ _ _
/-- behind an append onto a row of the call's own, nothing that was there when the call began has changed -/
theorem Only.appended {S : Nat → Prop} {a b c : World} {base n size : Nat} {e : TypeId} {v : Value} {xs : List Value} (h : Only S a b) (hown : b.ownsRow base e size v n xs) (hb : a.heap.size ≤ base) (hg : b.grownBy c v.ownBlock) : Only S a c :=
  h.grown hg (fun k hk hlt => by have := (hown.lt k hk).1; omega)

/-- '(a % m + m) % m' of Go is a number from 0 to m - 1 -/
theorem norm_mod (a : Int) (m : Nat) (h0 : 0 < m) (h1 : m ≤ 1000000000) : ∃ f : Nat, f < m ∧ (wrap64 (a.tmod m + m)).tmod m = f := by
  have hm : (0 : Int) < m := by omega
  have h2 := Int.tmod_lt_of_pos a hm
  have h3 : -(m : Int) < a.tmod m := Int.lt_tmod_of_pos a hm
  have hw : wrap64 (a.tmod m + m) = a.tmod m + m := by unfold wrap64; omega
  rw [hw, Int.tmod_eq_emod_of_nonneg (by omega)]
  have h4 := Int.emod_nonneg (a.tmod m + m) (by omega : (m : Int) ≠ 0)
  have h5 := Int.emod_lt_of_pos (a.tmod m + m) hm
  exact ⟨((a.tmod m + m) % m).toNat, by omega, by omega⟩

theorem empty_of_size {b : ByteArray} (h : b.size = 0) : b.toList.isEmpty = true := by
  rw [ByteArray.toList_eq, List.isEmpty_iff, ← List.length_eq_zero_iff]
  simpa using h
theorem full_of_size {b : ByteArray} (h : b.size ≠ 0) : b.toList.isEmpty = false := by
  rw [ByteArray.toList_eq]
  cases hb : b.data.toList with
  | nil => exact absurd (by have : b.data.toList.length = 0 := by rw [hb]; rfl
                            simpa using this) h
  | cons x l => rfl

/-- 'wp_region_still_tail' with the draw under its name -/
theorem wp_region_tail {P : Program} {id : Nat} {Q : Exit → Act → World → Prop} {a : Act} {w : World} {l : List Oper} (n : Nat) (hm : P.follows .mixedOrders = true) (hB : Region.lexTailB .any l.toArray n = true)
    (h : wpStill P l.toArray w.drew (fun a' => wpList P l.toArray Q (l.drop n) a' w.drew) (l.take n) a) : (Code.region id l.toArray true).wp P Q a w :=
  wp_region_still_tail n hm hB h

/-- .. with what follows behind a letter: the steps are cheap -/
theorem wp_region_tail2 {P : Program} {id : Nat} {Q : Exit → Act → World → Prop} {a : Act} {w : World} {l : List Oper} (n : Nat) (hm : P.follows .mixedOrders = true) (hB : Region.lexTailB .any l.toArray n = true)
    (h : ∀ K : Act → Prop, Hid (∀ a', wpList P l.toArray Q (l.drop n) a' w.drew → K a') → wpStill P l.toArray w.drew K (l.take n) a) : (Code.region id l.toArray true).wp P Q a w :=
  wp_region_still_tail n hm hB (h _ (Lib.hid (fun _ h => h)))
/-- an operation whose guard is false -/
theorem wpStill_skip {P : Program} {ops : Array Oper} {w : World} {Q : Act → Prop} {a : Act} {o : Oper} {rest : List Oper} (hw : Region.wanted o (yielded ops a.tmps) = false) (h : wpStill P ops w Q rest (a.put o.dst undef)) : wpStill P ops w Q (o :: rest) a :=
  wpStill_step fun K hK => by rw [if_neg (by rw [hw]; exact Bool.false_ne_true)]; exact hK _ h
/-- an operation whose guard is true -/
theorem wpStill_want {P : Program} {ops : Array Oper} {w : World} {Q : Act → Prop} {a : Act} {o : Oper} {rest : List Oper} (hw : Region.wanted o (yielded ops a.tmps) = true) (h : ∀ K : Act → Prop, (∀ a, wpStill P ops w Q rest a → K a) → o.still P a w K) : wpStill P ops w Q (o :: rest) a :=
  wpStill_step fun K hK => by rw [if_pos hw]; exact h K hK

end Go.Proofs.Ytogeeeigfhmpmaa

/- Rows of structs of any kind: of a call's own (appended to, written in place) and read. Over any program. -/
namespace Go.Proofs.Ytogeeeigfhmpmaa
open Go.RowKit

/-- a kind of struct: what lies in its cells -/
structure RowK (α : Type) where
  cells : α → List Value
  k : Nat
  zero : α
  pos : 0 < k
  len : ∀ x, (cells x).length = k
  one : ∀ x, ∀ u ∈ cells x, u.oneCell' = true

section
variable {α : Type} (K : RowK α)
theorem RowK.flat_length (l : List α) : (l.flatMap K.cells).length = l.length * K.k := by
  induction l with
  | nil => simp
  | cons e r ih => rw [List.flatMap_cons, List.length_append, ih, List.length_cons, K.len, Nat.add_mul]; omega
theorem RowK.flat_get : ∀ (l : List α) (i j : Nat), i < l.length → j < K.k → (l.flatMap K.cells)[i * K.k + j]? = (K.cells (l.getD i K.zero))[j]?
  | [], _, _, h, _ => by simp at h
  | e :: r, 0, j, _, hj => by
    rw [List.flatMap_cons, Nat.zero_mul, Nat.zero_add, List.getElem?_append_left (by rw [K.len]; exact hj)]
    rfl
  | e :: r, i + 1, j, h, hj => by
    rw [List.flatMap_cons, List.getElem?_append_right (by rw [K.len, Nat.add_mul]; omega)]
    have : (i + 1) * K.k + j - (K.cells e).length = i * K.k + j := by rw [K.len, Nat.add_mul]; omega
    rw [this, RowK.flat_get r i j (by simpa using h) hj, List.getD_cons_succ]
theorem RowK.place_lt {n i j : Nat} (hi : i < n) (hj : j < K.k) : i * K.k + j < n * K.k := by
  have h1 : (i + 1) * K.k ≤ n * K.k := Nat.mul_le_mul_right _ hi
  rw [Nat.add_mul] at h1
  omega
theorem RowK.flat_one (l : List α) : ∀ u ∈ l.flatMap K.cells, u.oneCell' = true := by
  intro u hu
  obtain ⟨e, _, he⟩ := List.mem_flatMap.1 hu
  exact K.one e u he
theorem RowK.flat_set : ∀ (l : List α) (i j : Nat) (y : α) (u : Value), i < l.length → j < K.k → K.cells y = (K.cells (l.getD i K.zero)).set j u → (l.set i y).flatMap K.cells = (l.flatMap K.cells).set (i * K.k + j) u
  | [], _, _, _, _, h, _, _ => by simp at h
  | e :: r, 0, j, y, u, _, hj, hy => by
    rw [List.set_cons_zero, List.flatMap_cons, List.flatMap_cons, Nat.zero_mul, Nat.zero_add, List.set_append, if_pos (by rw [K.len]; exact hj), hy]
    rfl
  | e :: r, i + 1, j, y, u, h, hj, hy => by
    rw [List.set_cons_succ, List.flatMap_cons, List.flatMap_cons, List.set_append, if_neg (by rw [K.len, Nat.add_mul]; omega)]
    have : (i + 1) * K.k + j - (K.cells e).length = i * K.k + j := by rw [K.len, Nat.add_mul]; omega
    rw [this, RowK.flat_set r i j y u (by simpa using h) hj (by simpa using hy)]
end

/-- a row of the call's own: elements of type E -/
def RowAt {α : Type} (K : RowK α) (E : TypeId) (w : World) (base : Nat) (v : Value) (l : List α) : Prop := w.ownsRow base E K.k v l.length (l.flatMap K.cells)
/-- block g is a row of cells of type E -/
def OfT (w : World) (g : Nat) (E : TypeId) : Prop := ∃ cs r, w.heap[g]? = some (.cells cs E r)
/-- a row that is read -/
structure RowIn {α : Type} (K : RowK α) (E : TypeId) (w : World) (ao : Option Addr) (l : List α) : Prop where
  cell : ∀ i, i < l.length → ∃ b off, ao = some ⟨b, off, none⟩ ∧ ∀ j, j < K.k → w.cell? ⟨b, off + i * K.k + j, none⟩ = (K.cells (l.getD i K.zero))[j]?
  typed : ∀ a, ao = some a → OfT w a.block E

section
variable {α : Type} {K : RowK α} {E : TypeId} {w w' : World} {base : Nat} {v : Value} {l : List α} {ao : Option Addr}
theorem OfT.lt {g : Nat} (h : OfT w g E) : g < w.heap.size := by obtain ⟨cs, r, h⟩ := h; exact lt_of_block h
theorem OfT.keeps {S : Nat → Prop} {g : Nat} (h : OfT w g E) (ho : Only S w w') (hs : ¬ S g) : OfT w' g E := by obtain ⟨cs, r, h⟩ := h; exact ⟨cs, r, ho.keeps hs h⟩
theorem OfT.ne_blk {g p : Nat} {cs : Array Value} {t : TypeId} (h : OfT w g E) (hb : Blk w p cs t) (ht : t ≠ E) : g ≠ p := by
  rintro rfl
  obtain ⟨c2, r, h⟩ := h
  unfold Blk at hb
  rw [hb] at h
  cases h
  exact ht rfl
theorem OfT.ne {F : TypeId} {g p : Nat} (h : OfT w g E) (hb : OfT w p F) (ht : F ≠ E) : g ≠ p := by
  rintro rfl
  obtain ⟨c2, r, h⟩ := h
  obtain ⟨c3, r3, h3⟩ := hb
  rw [h3] at h
  cases h
  exact ht rfl
theorem Blk.ofT {p : Nat} {cs : Array Value} {t : TypeId} (h : Blk w p cs t) : OfT w p t := ⟨_, _, h⟩
theorem RowIn.nil (w : World) : RowIn K E w none [] := ⟨fun i h => by simp at h, fun a h => by cases h⟩
theorem RowIn.keeps {S : Nat → Prop} (h : RowIn K E w ao l) (ho : Only S w w') (hs : ∀ a, ao = some a → ¬ S a.block) : RowIn K E w' ao l :=
  ⟨fun i hi => by
    obtain ⟨b, off, rfl, hc⟩ := h.cell i hi
    have hb : w'.heap[b]? = w.heap[b]? := ho.block b (h.typed _ rfl).lt (hs _ rfl)
    exact ⟨b, off, rfl, fun j hj => (World.cell?_of_block (a := ⟨b, off + i * K.k + j, none⟩) hb).trans (hc j hj)⟩, fun a ha => (h.typed a ha).keeps ho (hs a ha)⟩
/-- .. behind a call that writes blocks of other types alone -/
theorem RowIn.keepsT {S : Nat → Prop} (h : RowIn K E w ao l) (ho : Only S w w') (hs : ∀ k, S k → ¬ OfT w k E) : RowIn K E w' ao l := h.keeps ho (fun a ha hk => hs _ hk (h.typed a ha))
theorem RowIn.keepsN (h : RowIn K E w ao l) (ho : Only NoBlock w w') : RowIn K E w' ao l := h.keeps ho (fun _ _ h => h)
theorem RowIn.shape (h : RowIn K E w ao l) (hp : 0 < l.length) : ∃ b off, ao = some ⟨b, off, none⟩ := by obtain ⟨b, off, e, _⟩ := h.cell 0 hp; exact ⟨b, off, e⟩
theorem RowIn.at {b off : Nat} (h : RowIn K E w (some ⟨b, off, none⟩) l) {i : Nat} (hi : i < l.length) {j : Nat} (hj : j < K.k) : w.cell? ⟨b, off + i * K.k + j, none⟩ = (K.cells (l.getD i K.zero))[j]? := by
  obtain ⟨b', off', e, hc⟩ := h.cell i hi
  cases e
  exact hc j hj
theorem RowIn.flat {ad : Addr} (hm : RowIn K E w (some ad) l) : ∀ j u, (l.flatMap K.cells)[j]? = some u → w.cell? (ad.add j) = some u := by
  intro j u hj
  have hj' : j < l.length * K.k := by have := (List.getElem?_eq_some_iff.1 hj).1; rw [K.flat_length] at this; exact this
  have hk := K.pos
  have hi : j / K.k < l.length := (Nat.div_lt_iff_lt_mul hk).2 hj'
  obtain ⟨b, off, e, hc⟩ := hm.cell (j / K.k) hi
  cases e
  have hd : j = j / K.k * K.k + j % K.k := by rw [Nat.mul_comm]; exact (Nat.div_add_mod j K.k).symm
  have hr : j % K.k < K.k := Nat.mod_lt _ hk
  have := hc _ hr
  rw [Addr.add_lit]
  rw [Nat.add_assoc, ← hd] at this
  rw [this, ← K.flat_get l _ _ hi hr, ← hd]
  exact hj

theorem RowAt.nil (K : RowK α) (E : TypeId) (w : World) (base : Nat) : RowAt K E w base (.slice none 0 0) [] := World.ownsRow_nil _ _ _ _
theorem RowAt.keeps {S : Nat → Prop} (h : RowAt K E w base v l) (ho : Only S w w') (hs : ∀ k, v.ownBlock = some k → ¬ S k) : RowAt K E w' base v l := row_keeps h ho hs
theorem RowAt.keepsN (h : RowAt K E w base v l) (ho : Only NoBlock w w') : RowAt K E w' base v l := row_keeps h ho (fun _ _ h => h)
theorem RowAt.ofT (h : RowAt K E w base v l) {g : Nat} (hg : v.ownBlock = some g) : OfT w g E := by
  rcases h.2 with ⟨rfl, _⟩ | ⟨g', cap, cur, rfl, _, hb, _⟩
  · cases hg
  · cases hg; exact ⟨_, _, hb⟩
theorem RowAt.keepsT {S : Nat → Prop} (h : RowAt K E w base v l) (ho : Only S w w') (hs : ∀ k, S k → ¬ OfT w k E) : RowAt K E w' base v l := h.keeps ho (fun k hk hS => hs k hS (h.ofT hk))
theorem RowAt.shape (h : RowAt K E w base v l) : ∃ ao cap, v = .slice ao l.length cap := by
  rcases h.2 with ⟨h1, h0⟩ | ⟨g, cap, cur, rfl, _⟩
  · exact ⟨none, 0, by rw [h1, h0]⟩
  · exact ⟨_, cap, rfl⟩
theorem RowAt.shapeG (h : RowAt K E w base v l) (hp : 0 < l.length) : ∃ g cap, v = .slice (some ⟨g, 0, none⟩) l.length cap ∧ base ≤ g ∧ l.length ≤ cap ∧ cap ≤ maxLen ∧ g < w.heap.size := by
  rcases h.2 with ⟨_, h0⟩ | ⟨g, cap, cur, rfl, hb, hg, hn, hm, _⟩
  · omega
  · exact ⟨g, cap, rfl, hb, hn, hm, lt_of_block hg⟩
theorem RowAt.read (h : RowAt K E w base v l) : ∃ ao cap, v = .slice ao l.length cap ∧ RowIn K E w ao l := by
  rcases h.2 with ⟨h1, h0⟩ | ⟨g, cap, cur, rfl, hb, hg, hn, hm, hs, ht⟩
  · have : l = [] := List.length_eq_zero_iff.1 h0
    subst this
    exact ⟨none, 0, h1, RowIn.nil w⟩
  · refine ⟨_, cap, rfl, ⟨fun i hi => ⟨g, 0, rfl, fun j hj => ?_⟩, fun a ha => by cases ha; exact ⟨_, _, hg⟩⟩⟩
    rw [← K.flat_get l i j hi hj, Nat.zero_add]
    have hlt := K.place_lt hi hj
    exact World.ownsRow.cellAt h (i * K.k + j) hlt
theorem RowAt.cell {g cap n : Nat} (h : RowAt K E w base (.slice (some ⟨g, 0, none⟩) n cap) l) (hn : n = l.length) {i : Nat} (hi : i < l.length) {j : Nat} (hj : j < K.k) : w.cell? ⟨g, i * K.k + j, none⟩ = (K.cells (l.getD i K.zero))[j]? := by
  subst hn
  rw [← K.flat_get l i j hi hj]
  have hlt := K.place_lt hi hj
  exact World.ownsRow.cellAt h (i * K.k + j) hlt
theorem RowAt.free {g cap n : Nat} (h : RowAt K E w base (.slice (some ⟨g, 0, none⟩) n cap) l) (hn : n = l.length) (j : Nat) : w.frozen? ⟨g, j, none⟩ = false := by
  subst hn
  exact World.ownsRow.frozenAt h j
/-- a cell of an element is written -/
theorem RowAt.write {g cap n : Nat} (h : RowAt K E w base (.slice (some ⟨g, 0, none⟩) n cap) l) (hn : n = l.length) {i : Nat} (hi : i < l.length) {j : Nat} (hj : j < K.k) (y : α) (u : Value) (hy : K.cells y = (K.cells (l.getD i K.zero)).set j u) :
    RowAt K E (w.setCell ⟨g, i * K.k + j, none⟩ u) base (.slice (some ⟨g, 0, none⟩) n cap) (l.set i y) := by
  subst hn
  have := World.ownsRow.stored h (i * K.k + j) u
  unfold RowAt
  rw [List.length_set, K.flat_set l i j y u hi hj hy]
  exact this.1
theorem RowAt.lower {b' : Nat} (h : RowAt K E w base v l) (hb : b' ≤ base) : RowAt K E w b' v l := by
  refine ⟨h.1, ?_⟩
  rcases h.2 with h0 | ⟨g, cap, cur, h1, h2, h3⟩
  · exact .inl h0
  · exact .inr ⟨g, cap, cur, h1, Nat.le_trans hb h2, h3⟩
theorem RowAt.higher {b' : Nat} (h : RowAt K E w base v l) (hb : ∀ k, v.ownBlock = some k → b' ≤ k) : RowAt K E w b' v l := by
  refine ⟨h.1, ?_⟩
  rcases h.2 with h0 | ⟨g, cap, cur, rfl, h2, h3⟩
  · exact .inl h0
  · exact .inr ⟨g, cap, cur, rfl, hb g rfl, h3⟩
end

theorem append_nothing0 {P : Program} {w : World} (base : Nat) (t ty e : TypeId) (i : TypeInfo) (size : Nat) (ht : P.underlying t = some (.slice e)) (hi : P.info? e = some i)
    (v : Value) (n : Nat) (xs : List Value) (hown : w.ownsRow base e size v n xs) (c : Nat) : (Builtin.append_ #[t, t] ty #[v, .slice none 0 c]).run P w = .ok v w := by
  rcases hown.2 with ⟨rfl, rfl⟩ | ⟨g, cap, cur, rfl, _, _, hnc, _⟩
  · simp [Builtin.append_, run_underlying ht, sizeOf, typeInfo, hi, Builtin.lenOf, Builtin.firstCells]
  · simp [Builtin.append_, run_underlying ht, sizeOf, typeInfo, hi, Builtin.lenOf, Builtin.firstCells, hnc, storeCells]

section
variable {P : Program} {α : Type} {K : RowK α} {E T : TypeId} {z : Value} {bytes : Nat}
/-- what the type's table says of a kind -/
structure RowT (P : Program) (K : RowK α) (E T : TypeId) (z : Value) (bytes : Nat) : Prop where
  u : P.underlying T = some (.slice E)
  info : (P.info? E).map (fun i => (i.zero, i.size, i.bytes)) = some (some z, K.k, bytes)
  zs : z.cells.size = K.k
  few : bytes ≤ 1000
theorem run_append_row (X : RowT P K E T z bytes) (w : World) (ty : TypeId) (base : Nat) (v : Value) (l m : List α) (ad : Addr) (n : Nat) (hown : RowAt K E w base v l) (hm : ∀ j u, (m.flatMap K.cells)[j]? = some u → w.cell? (ad.add j) = some u)
    (hlen : l.length + m.length ≤ 140737488355) (hbase : base ≤ w.heap.size) :
    ∃ v' w', (Builtin.append_ #[T, T] ty #[v, .slice (some ad) m.length n]).run P w = .ok v' w' ∧ RowAt K E w' base v' (l ++ m) ∧ w.grownBy w' v.ownBlock ∧ (v'.ownBlock = v.ownBlock ∨ v'.ownBlock = some w.heap.size) := by
  obtain ⟨i, hi, hz, hsz, hby⟩ := info_parts X.info
  have hb : (l.length + m.length) * bytes ≤ 140737488355328 := Nat.le_trans (Nat.mul_le_mul hlen X.few) (by decide)
  obtain ⟨v', w', hr, h2, h3, _, h5⟩ := run_append_own_at (P := P) w base T ty E i z K.k bytes X.u hi hz hsz hby X.zs K.pos v l.length _ hown ad m.length n (m.flatMap K.cells) (K.flat_length m) hm (K.flat_one m) (by unfold maxLen; omega) hb hbase
  refine ⟨v', w', hr, ?_, h3, h5⟩
  unfold RowAt
  rw [List.flatMap_append, List.length_append]
  exact h2
theorem flat_one_cells (K : RowK α) (w : World) (b : Nat) (x : α) (hc : ∀ j, j < K.k → w.cell? ⟨b, j, none⟩ = (K.cells x)[j]?) : ∀ j u, ([x].flatMap K.cells)[j]? = some u → w.cell? ((⟨b, 0, none⟩ : Addr).add j) = some u := by
  intro j u hj
  rw [List.flatMap_cons, List.flatMap_nil, List.append_nil] at hj
  have hlt : j < K.k := by have := (List.getElem?_eq_some_iff.1 hj).1; rwa [K.len] at this
  rw [Addr.add_lit, Nat.zero_add, hc j hlt]
  exact hj
/-- the new block of one element -/
theorem made_cells (K : RowK α) (w : World) (E : TypeId) (b : Nat) (hb : b = w.heap.size) (cs : Array Value) (x : α) (hx : cs.toList = K.cells x) : ∀ j, j < K.k → (w.alloc (.cells cs E)).cell? ⟨b, j, none⟩ = (K.cells x)[j]? := by
  intro j _
  subst hb
  rw [(Blk.made w cs E).cell, ← hx]
  simp
theorem made_cells_drew (K : RowK α) (w : World) (E : TypeId) (b : Nat) (hb : b = w.heap.size) (cs : Array Value) (x : α) (hx : cs.toList = K.cells x) : ∀ j, j < K.k → (w.alloc (.cells cs E)).drew.cell? ⟨b, j, none⟩ = (K.cells x)[j]? := made_cells K w E b hb cs x hx

variable {ops : Array Oper} {rest : List Oper} {o : Oper} {a : Act} {Q : Exit → Act → World → Prop}
/-- 'append(xs, x)' -/
theorem wpList_append_row1 (X : RowT P K E T z bytes) (w : World) (hgd : o.guard = none) (s y : Operand) (ho : o.op = .call { callee := .builtin .append, args := #[s, y], argTypes := #[T, T] })
    (base : Nat) (v : Value) (l : List α) (x : α) (b n : Nat) (hs : a.eval s = v) (hown : RowAt K E w base v l) (hx : a.eval y = .slice (some ⟨b, 0, none⟩) 1 n)
    (hc : ∀ j, j < K.k → w.cell? ⟨b, j, none⟩ = (K.cells x)[j]?) (hlen : l.length + 1 ≤ 140737488355) (hbase : base ≤ w.heap.size)
    (h : ∀ v' w', RowAt K E w' base v' (l ++ [x]) → w.grownBy w' v.ownBlock → (v'.ownBlock = v.ownBlock ∨ v'.ownBlock = some w.heap.size) → wpList P ops Q rest (a.put o.dst v') w') : wpList P ops Q (o :: rest) a w := by
  refine wpList_plain hgd fun K' hK => ?_
  unfold Oper.wp execOp
  simp only [ho, resolve, invoke, builtin, Sem.run_bind, Sem.run_pure, Result.andThen_ok, List.map_toArray, List.map_cons, List.map_nil, hs, hx]
  obtain ⟨v', w', hr, h2, h3, h5⟩ := run_append_row X w o.type base v l [x] ⟨b, 0, none⟩ n hown (flat_one_cells K w b x hc) (by simpa using hlen) hbase
  rw [show (1 : Nat) = [x].length from rfl, hr]
  exact hK _ _ (h v' w' h2 h3 h5)
/-- 'append(xs, ys...)' -/
theorem wpList_append_rows (X : RowT P K E T z bytes) (w : World) (hgd : o.guard = none) (s y : Operand) (ho : o.op = .call { callee := .builtin .append, args := #[s, y], argTypes := #[T, T] })
    (base : Nat) (v : Value) (l m : List α) (ao : Option Addr) (k n : Nat) (hs : a.eval s = v) (hown : RowAt K E w base v l) (hx : a.eval y = .slice ao k n) (hk : k = m.length) (hm : RowIn K E w ao m)
    (hlen : l.length + m.length ≤ 140737488355) (hbase : base ≤ w.heap.size)
    (h : ∀ v' w', RowAt K E w' base v' (l ++ m) → w.grownBy w' v.ownBlock → (v'.ownBlock = v.ownBlock ∨ v'.ownBlock = some w.heap.size) → wpList P ops Q rest (a.put o.dst v') w') : wpList P ops Q (o :: rest) a w := by
  subst hk
  refine wpList_plain hgd fun K' hK => ?_
  unfold Oper.wp execOp
  simp only [ho, resolve, invoke, builtin, Sem.run_bind, Sem.run_pure, Result.andThen_ok, List.map_toArray, List.map_cons, List.map_nil, hs, hx]
  cases ao with
  | none =>
    have hm0 : m = [] := by
      cases m with
      | nil => rfl
      | cons y r => obtain ⟨b, off, e, _⟩ := hm.cell 0 (by simp); cases e
    subst hm0
    obtain ⟨i, hi, hz, hsz, hby⟩ := info_parts X.info
    rw [show ([] : List α).length = 0 from rfl, append_nothing0 base T o.type E i K.k X.u hi v l.length _ hown n]
    exact hK _ _ (h v w (by rw [List.append_nil]; exact hown) ⟨rfl, rfl, rfl, Nat.le_refl _, fun _ _ _ => rfl⟩ (.inl rfl))
  | some ad =>
    obtain ⟨v', w', hr, h2, h3, h5⟩ := run_append_row X w o.type base v l m ad n hown hm.flat hlen hbase
    rw [hr]
    exact hK _ _ (h v' w' h2 h3 h5)
/-- 'append(xs, x)', as one step of a region that draws -/
theorem step_append_row1 {R : Act → World → Prop} {G : Prop} (X : RowT P K E T z bytes) (w : World) (hgd : o.guard = none) (s y : Operand) (ho : o.op = .call { callee := .builtin .append, args := #[s, y], argTypes := #[T, T] })
    (base : Nat) (v : Value) (l : List α) (x : α) (b n : Nat) (hs : a.eval s = v) (hown : RowAt K E w base v l) (hx : a.eval y = .slice (some ⟨b, 0, none⟩) 1 n)
    (hc : ∀ j, j < K.k → w.cell? ⟨b, j, none⟩ = (K.cells x)[j]?) (hlen : l.length + 1 ≤ 140737488355) (hbase : base ≤ w.heap.size)
    (h : ∀ v' w', RowAt K E w' base v' (l ++ [x]) → w.grownBy w' v.ownBlock → (v'.ownBlock = v.ownBlock ∨ v'.ownBlock = some w.heap.size) → R (a.put o.dst v') w') : if Region.wanted o (yielded ops a.tmps) = true then Oper.wp P o a w R Q else G := by
  have hw : Region.wanted o (yielded ops a.tmps) = true := by simp [Region.wanted, hgd]
  rw [if_pos hw]
  unfold Oper.wp execOp
  simp only [ho, resolve, invoke, builtin, Sem.run_bind, Sem.run_pure, Result.andThen_ok, List.map_toArray, List.map_cons, List.map_nil, hs, hx]
  obtain ⟨v', w', hr, h2, h3, h5⟩ := run_append_row X w o.type base v l [x] ⟨b, 0, none⟩ n hown (flat_one_cells K w b x hc) (by simpa using hlen) hbase
  rw [show (1 : Nat) = [x].length from rfl, hr]
  exact h v' w' h2 h3 h5
end
end Go.Proofs.Ytogeeeigfhmpmaa

/- The sum of a text, in plain numbers, and what the program's and the document's functions make of it. -/
namespace Go.Proofs.Ytogeeeigfhmpmaa
open Go.RowKit

/-- a row of bytes that is read -/
structure BytesIn (w : World) (ao : Option Addr) (l : List Int) : Prop where
  wf : ∀ x ∈ l, 0 ≤ x ∧ x ≤ 255
  len : l.length ≤ maxLen
  cell : ∀ i, i < l.length → ∃ b off, ao = some ⟨b, off, none⟩ ∧ w.cell? ⟨b, off + i, none⟩ = some (.int .u8 (l.getD i 0))

theorem BytesIn.keeps {S : Nat → Prop} {w w' : World} {ao : Option Addr} {l : List Int} (h : BytesIn w ao l) (ho : Only S w w') (hs : ∀ a, ao = some a → ¬ S a.block) : BytesIn w' ao l :=
  ⟨h.wf, h.len, fun i hi => by
    obtain ⟨b, off, e, hc⟩ := h.cell i hi
    refine ⟨b, off, e, ?_⟩
    have hlt : b < w.heap.size := World.block_lt_of_cell? w _ hc
    have hb := ho.block b hlt (hs ⟨b, off, none⟩ e)
    rw [← hc]
    simp [World.cell?, hb]⟩
theorem BytesIn.at {w : World} {ao : Option Addr} {l : List Int} (h : BytesIn w ao l) {k : Nat} (hk : k < l.length) : ∃ b off, ao = some ⟨b, off, none⟩ ∧ w.cell? ⟨b, off + k, none⟩ = some (.int .u8 (l.getD k 0)) ∧ 0 ≤ l.getD k 0 ∧ l.getD k 0 ≤ 255 := by
  obtain ⟨b, off, e, hc⟩ := h.cell k hk
  have hmem : l.getD k 0 ∈ l := by rw [List.getD_eq_getElem?_getD, List.getElem?_eq_getElem hk]; exact List.getElem_mem hk
  exact ⟨b, off, e, hc, h.wf _ hmem⟩

namespace Crc
def half (x : Int) : Int := if x % 2 = 1 then bits .xor .u32 (x / 2) 2197175160 else x / 2
def halfs : Nat → Int → Int
  | 0, x => x
  | n + 1, x => half (halfs n x)
def byte (x c : Int) : Int := halfs 8 (bits .xor .u32 x c)
def sum (x : Int) (l : List Int) : Int := l.foldl byte x
def add (s : Int) (l : List Int) : Int := 4294967295 - sum (4294967295 - s) l

def U (x : Int) : Prop := 0 ≤ x ∧ x < 4294967296
theorem xor_u (a b : Int) : U (bits .xor .u32 a b) := by
  unfold bits
  simp only [IntKind.wrap_u32]
  constructor <;> omega
theorem half_u {x : Int} (h : U x) : U (half x) := by
  unfold half
  split
  · exact xor_u _ _
  · obtain ⟨h0, h1⟩ := h; exact ⟨by omega, by omega⟩
theorem halfs_u {x : Int} (h : U x) : ∀ n, U (halfs n x)
  | 0 => h
  | n + 1 => half_u (halfs_u h n)
theorem byte_u (x c : Int) : U (byte x c) := halfs_u (xor_u x c) 8
theorem sum_u {x : Int} (h : U x) (l : List Int) : U (sum x l) := by
  unfold sum
  induction l generalizing x with
  | nil => exact h
  | cons c r ih => exact ih (byte_u x c)
theorem sum_step (x : Int) (l : List Int) (k : Nat) (hk : k < l.length) : sum x (l.take (k + 1)) = byte (sum x (l.take k)) (l.getD k 0) := by
  unfold sum
  rw [List.take_add_one, List.getElem?_eq_getElem hk, Option.toList_some, List.foldl_append, List.getD_eq_getElem?_getD, List.getElem?_eq_getElem hk]
  rfl
theorem and_one {x : Int} (h : U x) : bits .and .u32 x 1 = x % 2 :=
  bits_mask .u32 32 (by decide) (fun n h0 h1 => by rw [IntKind.wrap_u32]; omega) 1 (by decide) x h.1 (by have := h.2; omega)
theorem xor_zero {x : Int} (h : U x) : bits .xor .u32 x 0 = x := by
  obtain ⟨a, rfl⟩ := Int.eq_ofNat_of_zero_le h.1
  have h1 := h.2
  unfold bits
  simp only [IntKind.wrap_u32]
  have e : (BitVec.ofInt 32 (a : Int) ^^^ BitVec.ofInt 32 0) = BitVec.ofInt 32 (a : Int) := by simp
  show ((BitVec.ofInt 32 (a : Int) ^^^ BitVec.ofInt 32 0).toNat : Int) % 4294967296 = a
  rw [e]
  simp [BitVec.ofInt_natCast]
  omega
theorem half_code {x : Int} (h : U x) : bits .xor .u32 (x / 2) (bits .and .u32 2197175160 (-(bits .and .u32 x 1) % 4294967296)) = half x := by
  rw [and_one h]
  unfold half
  have hu : U (x / 2) := by obtain ⟨h0, h1⟩ := h; exact ⟨by omega, by omega⟩
  rcases (by omega : x % 2 = 0 ∨ x % 2 = 1) with e | e
  · rw [e, if_neg (by decide)]
    have : bits .and .u32 2197175160 (-0 % 4294967296) = 0 := by decide +kernel
    rw [this, xor_zero hu]
  · rw [e, if_pos rfl]
    have : bits .and .u32 2197175160 (-1 % 4294967296) = 2197175160 := by decide +kernel
    rw [this]
theorem not_u {x : Int} (h : U x) : bits .xor .u32 IntKind.u32.max x = 4294967295 - x := by
  obtain ⟨a, rfl⟩ := Int.eq_ofNat_of_zero_le h.1
  have h1 := h.2
  unfold bits
  simp only [IntKind.wrap_u32]
  have em : IntKind.u32.max = 4294967295 := by decide +kernel
  rw [em]
  have e : (BitVec.ofInt 32 4294967295 ^^^ BitVec.ofInt 32 (a : Int)) = ~~~ (BitVec.ofInt 32 (a : Int)) := by
    have : BitVec.ofInt 32 4294967295 = BitVec.allOnes 32 := by decide +kernel
    rw [this, BitVec.allOnes_xor]
  show ((BitVec.ofInt 32 4294967295 ^^^ BitVec.ofInt 32 (a : Int)).toNat : Int) % 4294967296 = 4294967295 - a
  rw [e, BitVec.toNat_not]
  simp only [BitVec.ofInt_natCast, BitVec.toNat_ofNat]
  omega
theorem not_U {x : Int} (h : U x) : U (4294967295 - x) := by obtain ⟨h0, h1⟩ := h; exact ⟨by omega, by omega⟩
end Crc

end Go.Proofs.Ytogeeeigfhmpmaa

/- Rows of bytes of a call's own: made, appended to, written, read; and text turned into such a row. -/
namespace Go.Proofs.Ytogeeeigfhmpmaa
open Go.RowKit

namespace By
theorem u_bytes : Try.prog.underlying 100 = some (.slice 5) := by kernel_rfl
theorem info : (Try.prog.info? 5).map (fun i => (i.zero, i.size, i.bytes)) = some (some (.int .u8 0), 1, 1) := by kernel_rfl
end By

/-- a row of bytes of the call's own -/
def Bts (w : World) (base : Nat) (v : Value) (l : List Int) : Prop := w.ownsRow base 5 1 v l.length (l.map (Value.int .u8))

section
variable {w w' : World} {base : Nat} {v : Value} {l : List Int}
theorem Bts.keeps {S : Nat → Prop} (h : Bts w base v l) (ho : Only S w w') (hs : ∀ k, v.ownBlock = some k → ¬ S k) : Bts w' base v l := row_keeps h ho hs
theorem Bts.shape (h : Bts w base v l) (hl : 0 < l.length) : ∃ g cap, v = .slice (some ⟨g, 0, none⟩) l.length cap ∧ base ≤ g ∧ l.length ≤ cap ∧ cap ≤ maxLen := by
  rcases h.2 with ⟨_, h0⟩ | ⟨g, cap, cur, rfl, hb, _, hn, hm, _⟩
  · omega
  · exact ⟨g, cap, rfl, hb, hn, hm⟩
theorem Bts.shape' (h : Bts w base v l) : ∃ ao cap, v = .slice ao l.length cap := by
  rcases h.2 with ⟨h1, h0⟩ | ⟨g, cap, cur, rfl, hb, _, hn, hm, _⟩
  · exact ⟨none, 0, by rw [h1, h0]⟩
  · exact ⟨_, cap, rfl⟩
theorem Bts.nil (w : World) (base : Nat) : Bts w base (.slice none 0 0) [] := World.ownsRow_nil _ _ _ _
theorem Bts.read {ao : Option Addr} {cap : Nat} (h : Bts w base (.slice ao l.length cap) l) (hw : ∀ x ∈ l, 0 ≤ x ∧ x ≤ 255) : BytesIn w ao l := by
  rcases h.2 with ⟨h1, h0⟩ | ⟨g, cap', cur, h1, hb, hg, hn, hm, _, ht⟩
  · exact ⟨hw, by unfold maxLen; omega, fun i hi => by omega⟩
  · simp only [Value.slice.injEq] at h1
    obtain ⟨rfl, _, rfl⟩ := h1
    refine ⟨hw, by omega, fun i hi => ⟨g, 0, rfl, ?_⟩⟩
    rw [Nat.zero_add]
    have := World.ownsRow.cellAt h i (by simpa using hi)
    rw [this, List.getElem?_map, List.getElem?_eq_getElem hi]
    simp [List.getD, hi]
theorem Bts.write {g cap n : Nat} (h : Bts w base (.slice (some ⟨g, 0, none⟩) n cap) l) (hn : n = l.length) (j : Nat) (x : Int) :
    Bts (w.setCell ⟨g, j, none⟩ (.int .u8 x)) base (.slice (some ⟨g, 0, none⟩) n cap) (l.set j x) ∧ w.grownBy (w.setCell ⟨g, j, none⟩ (.int .u8 x)) (some g) := by
  subst hn
  have := World.ownsRow.stored h j (.int .u8 x)
  refine ⟨?_, this.2⟩
  unfold Bts
  rw [List.length_set, List.map_set]
  exact this.1
theorem Bts.at {g cap n : Nat} (h : Bts w base (.slice (some ⟨g, 0, none⟩) n cap) l) (hn : n = l.length) (j : Nat) (hj : j < l.length) : w.cell? ⟨g, j, none⟩ = some (.int .u8 (l.getD j 0)) := by
  subst hn
  rw [World.ownsRow.cellAt h j (by simpa using hj), List.getElem?_map, List.getElem?_eq_getElem hj]
  simp [List.getD, hj]
theorem Bts.free {g cap n : Nat} (h : Bts w base (.slice (some ⟨g, 0, none⟩) n cap) l) (hn : n = l.length) (j : Nat) : w.frozen? ⟨g, j, none⟩ = false := by
  subst hn
  exact World.ownsRow.frozenAt h j
theorem cell_byte (w : World) (c : Int) (t : TypeId) (n : Nat) (hn : n = w.heap.size) : (w.alloc (.cells #[.int .u8 c] t)).cell? ⟨n, 0, none⟩ = some (.int .u8 c) := by
  subst hn
  rw [(Blk.made w _ _).cell]; rfl
end

section
variable {ops : Array Oper} {rest : List Oper} {o : Oper} {a : Act} {Q : Exit → Act → World → Prop}
theorem wpList_append_byte (w : World) (hgd : o.guard = none) (s x : Operand) (ho : o.op = .call { callee := .builtin .append, args := #[s, x], argTypes := #[100, 100] })
    (base : Nat) (v : Value) (l : List Int) (c : Int) (ad : Addr) (n : Nat) (hs : a.eval s = v) (hown : Bts w base v l) (hx : a.eval x = .slice (some ad) 1 n) (hc : w.cell? ad = some (.int .u8 c))
    (hlen : l.length + 1 ≤ 140737488355328) (hbase : base ≤ w.heap.size)
    (h : ∀ v' w', Bts w' base v' (l ++ [c]) → w.grownBy w' v.ownBlock → wpList Try.prog ops Q rest (a.put o.dst v') w') : wpList Try.prog ops Q (o :: rest) a w := by
  obtain ⟨i, hi, hz, hsz, hby⟩ := info_parts By.info
  refine wpList_append_own w hgd s x _ ho base 5 i (.int .u8 0) 1 1 By.u_bytes hi hz hsz hby rfl (by decide) v l.length _ hs hown ad 1 n [.int .u8 c] hx rfl ?_ ?_ ?_ ?_ hbase ?_
  · intro j u hj
    cases j with
    | zero =>
      cases hj
      have : ad.add 0 = ad := by unfold Addr.add; obtain ⟨b, off, sp⟩ := ad; cases sp <;> rfl
      rw [this]; exact hc
    | succ j => cases hj
  · simp [Value.oneCell']
  · unfold maxLen; omega
  · omega
  · intro v' w' h1 h2 _
    refine h v' w' ?_ h2
    unfold Bts
    simpa using h1
theorem wpList_make_byte (w : World) (hg : o.guard = none) (l c : Operand) (hop : o.op = Op.makeSlice 100 l c)
    (base : Nat) (kl kc : IntKind) (n : Nat) (hl : a.eval l = .int kl 1) (hc : a.eval c = .int kc (n : Int)) (hn : 1 ≤ n) (b2 : n ≤ 281474976710656) (b4 : base ≤ w.heap.size)
    (hK : ∀ w', Bts w' base (.slice (some ⟨w.heap.size, 0, none⟩) 1 n) [0] → w.grownBy w' none → wpList Try.prog ops Q rest (a.put o.dst (.slice (some ⟨w.heap.size, 0, none⟩) 1 n)) w') :
    wpList Try.prog ops Q (o :: rest) a w := by
  obtain ⟨i, hi, hz, hsz, hby⟩ := info_parts By.info
  have hrun := run_make (P := Try.prog) w 100 5 i (.int .u8 0) By.u_bytes hi hz kl kc 1 n (by decide) (by omega) (by rw [hby]; omega) (by omega)
  rw [hsz] at hrun
  simp only [Int.toNat_one, Int.toNat_natCast] at hrun
  have hz1 : (Value.int .u8 0).cells = #[Value.int .u8 0] := rfl
  rw [hz1] at hrun
  refine wpList_plain hg fun K hK' => ?_
  unfold Oper.wp
  simp [execOp, hop, hl, hc, hrun, Result.andThen]
  refine hK' _ _ (hK _ ⟨rfl, .inr ⟨w.heap.size, n, _, rfl, b4, heap_alloc_new w _, hn, by unfold maxLen; omega, (size_madeCells _ _).trans (Nat.mul_one n).symm, ?_⟩⟩ (World.grownBy_alloc w _ none))
  rw [Nat.mul_one, toList_madeCells_one]
  obtain ⟨m, rfl⟩ : ∃ m, n = m + 1 := ⟨n - 1, by omega⟩
  rfl
end

end Go.Proofs.Ytogeeeigfhmpmaa

/- Texts and rows of bytes: a text's numbers, a row made of a text, what is appended to it, and a text made of a row. -/
namespace Go.Proofs.Ytogeeeigfhmpmaa
open Go.RowKit
set_option maxRecDepth 100000

/-- the numbers of a text -/
def nums (s : ByteArray) : List Int := s.data.toList.map (fun b => (b.toNat : Int))
/-- the text of numbers -/
def textOf (l : List Int) : ByteArray := ⟨(l.map (fun x => UInt8.ofNat x.toNat)).toArray⟩

theorem nums_length (s : ByteArray) : (nums s).length = s.size := by simp [nums]
theorem textOf_size (l : List Int) : (textOf l).size = l.length := by
  show (l.map _).toArray.size = _
  simp
theorem textOf_nums (s : ByteArray) : textOf (nums s) = s := by
  unfold textOf nums
  obtain ⟨d⟩ := s
  congr 1
  apply Array.ext'
  simp [Function.comp_def]
theorem nums_byte (s : ByteArray) : ∀ x ∈ nums s, 0 ≤ x ∧ x ≤ 255 := by
  intro x hx
  unfold nums at hx
  obtain ⟨b, _, rfl⟩ := List.mem_map.1 hx
  have := b.toNat_lt
  omega
theorem nums_textOf {l : List Int} (h : ∀ x ∈ l, 0 ≤ x ∧ x ≤ 255) : nums (textOf l) = l := by
  unfold nums textOf
  simp only [List.map_map]
  conv => rhs; rw [← List.map_id l]
  refine List.map_congr_left fun x hx => ?_
  have := h x hx
  simp
  omega
theorem nums_append (s t : ByteArray) : nums (s ++ t) = nums s ++ nums t := by simp [nums]
theorem nums_inj {s t : ByteArray} (h : nums s = nums t) : s = t := by rw [← textOf_nums s, h, textOf_nums]
theorem textOf_append (a b : List Int) : textOf (a ++ b) = textOf a ++ textOf b := by
  unfold textOf
  apply ByteArray.ext
  simp
theorem nums_getD (s : ByteArray) (i : Nat) (h : i < s.size) : (nums s).getD i 0 = ((s.data.toList.getD i 0).toNat : Int) := by
  have : i < s.data.toList.length := by simpa using h
  unfold nums
  rw [List.getD_eq_getElem?_getD, List.getD_eq_getElem?_getD, List.getElem?_map, List.getElem?_eq_getElem this]
  rfl
theorem nums_get (s : ByteArray) (i : Nat) (h : i < s.size) : (nums s).getD i 0 = ((s[i]'h).toNat : Int) := by
  rw [nums_getD s i h]
  have h' : i < s.data.toList.length := by simpa using h
  rw [List.getD_eq_getElem?_getD, List.getElem?_eq_getElem h']
  rfl
theorem nums_extract (s : ByteArray) (i j : Nat) : nums (s.extract i j) = ((nums s).drop i).take (j - i) := by
  unfold nums
  rw [ByteArray.data_extract, Array.toList_extract, List.extract_eq_take_drop, List.map_take, List.map_drop]

/-- a row that was made of a text -/
def ConvRow (w : World) (g : Nat) (l : List Int) (cap : Nat) : Prop :=
  l.length ≤ cap ∧ cap ≤ maxLen ∧ (∀ x ∈ l, 0 ≤ x ∧ x ≤ 255) ∧ ∃ cur : Array Value, w.heap[g]? = some (.cells cur 5 (cap, cap + 1)) ∧ cur.size = cap ∧ cur.toList.take l.length = l.map (Value.int .u8)

theorem ConvRow.keeps {S : Nat → Prop} {w w' : World} {g cap : Nat} {l : List Int} (h : ConvRow w g l cap) (ho : Only S w w') (hs : ¬ S g) : ConvRow w' g l cap := by
  obtain ⟨h1, h2, h3, cur, h4, h5, h6⟩ := h
  exact ⟨h1, h2, h3, cur, ho.keeps hs h4, h5, h6⟩
theorem ConvRow.cell {w : World} {g cap : Nat} {l : List Int} (h : ConvRow w g l cap) (i : Nat) (hi : i < l.length) : w.cell? ⟨g, i, none⟩ = some (.int .u8 (l.getD i 0)) := by
  obtain ⟨h1, h2, h3, cur, h4, h5, h6⟩ := h
  have h7 : cur[i]? = some (.int .u8 (l.getD i 0)) := by
    have : (cur.toList.take l.length)[i]? = (l.map (Value.int .u8))[i]? := by rw [h6]
    rw [List.getElem?_take, if_pos hi, List.getElem?_map, List.getElem?_eq_getElem hi] at this
    rw [← Array.getElem?_toList, this, List.getD_eq_getElem?_getD, List.getElem?_eq_getElem hi]
    rfl
  simp [World.cell?, h4, h7]
theorem ConvRow.read {w : World} {g cap : Nat} {l : List Int} (h : ConvRow w g l cap) : BytesIn w (some ⟨g, 0, none⟩) l :=
  ⟨h.2.2.1, by have := h.1; have := h.2.1; omega, fun i hi => ⟨g, 0, rfl, by rw [Nat.zero_add]; exact h.cell i hi⟩⟩

namespace Cv
theorem run_storeCells_mark (P : Program) (g o : Nat) (t : TypeId) (lo hi : Nat) : ∀ (vs : List Value) (i : Nat) (cur : Array Value) (w : World), w.heap[g]? = some (.cells cur t (lo, hi)) → o + i + vs.length ≤ cur.size → o + i + vs.length ≤ lo → (∀ v ∈ vs, v.oneCell' = true) →
    (storeCells ⟨g, o, none⟩ vs i).run P w = .ok () (w.setRow g (cur.toList.take (o + i) ++ vs ++ cur.toList.drop (o + i + vs.length)).toArray)
  | [], i, cur, w, hg, _, _, _ => by
    simp only [storeCells, List.append_nil, List.length_nil, Nat.add_zero, List.take_append_drop, Array.toArray_toList]
    rw [setRow_self w g cur t (lo, hi) hg]
    rfl
  | v :: rest, i, cur, w, hg, hl, hlo, h1 => by
    have hi' : o + i < cur.size := by simp at hl; omega
    have hadd : (⟨g, o, none⟩ : Addr).add i = ⟨g, o + i, none⟩ := by unfold Addr.add; split <;> simp_all
    have hcell : w.cell? ⟨g, o + i, none⟩ = some cur[o + i] := by simp [World.cell?, hg, hi']
    have hfro : w.frozen? ⟨g, o + i, none⟩ = false := by simp [World.frozen?, hg]; simp at hlo; omega
    have hst : (store ((⟨g, o, none⟩ : Addr).add i) v).run P w = .ok () (w.setRow g (cur.setIfInBounds (o + i) v)) := by
      rw [hadd, run_store P w _ v _ (h1 v (by simp)), hcell]
      simp [hfro, setCell_eq_setRow w g (o + i) cur t (lo, hi) v hg]
    have ih := run_storeCells_mark P g o t lo hi rest (i + 1) (cur.setIfInBounds (o + i) v) (w.setRow g (cur.setIfInBounds (o + i) v)) (setRow_heap w g cur _ t _ hg) (by simp at hl ⊢; omega) (by simp at hlo ⊢; omega) (fun x hx => h1 x (by simp [hx]))
    simp only [storeCells, Sem.run_bind, hst, Result.andThen_ok, ih, setRow_setRow]
    congr 3
    have e := list_seg_step cur.toList (o + i) v rest (by simp at hl ⊢; omega)
    simpa [Array.toList_setIfInBounds, Nat.add_assoc] using e

theorem run_append_mark {P : Program} (w : World) (t ty e : TypeId) (i : TypeInfo) (ht : P.underlying t = some (.slice e)) (hi : P.info? e = some i) (hs1 : i.size = 1) (lo hi' : Nat)
    (g sLen sCap : Nat) (cur : Array Value) (hg : w.heap[g]? = some (.cells cur e (lo, hi')))
    (a : Addr) (m c : Nat) (news : List Value) (hl : news.length = m) (hnews : ∀ j u, news[j]? = some u → w.cell? (a.add j) = some u) (h1 : ∀ u ∈ news, u.oneCell' = true)
    (hroom : sLen + m ≤ sCap) (hfit : sLen + m ≤ cur.size) (hlo : sLen + m ≤ lo) :
    (Builtin.append_ #[t, t] ty #[.slice (some ⟨g, 0, none⟩) sLen sCap, .slice (some a) m c]).run P w =
      .ok (.slice (some ⟨g, 0, none⟩) (sLen + m) sCap) (w.setRow g (cur.toList.take sLen ++ news ++ cur.toList.drop (sLen + news.length)).toArray) := by
  have hf := run_firstCells_some (P := P) w i.size m a m c news (by rw [hs1, Nat.mul_one]; exact hl) hnews
  have hst := run_storeCells_mark P g (sLen * i.size) e lo hi' news 0 cur w hg (by rw [hs1]; omega) (by rw [hs1]; omega) h1
  simp only [Nat.add_zero, hs1, Nat.mul_one] at hst
  rw [hs1] at hf
  simp [Builtin.append_, run_underlying ht, sizeOf, typeInfo, hi, Builtin.lenOf, hroom, hf, hs1, Addr.add_lit, hst]
end Cv

section
variable {ops : Array Oper} {rest : List Oper} {o : Oper} {a : Act} {Q : Exit → Act → World → Prop}
theorem Cv.u_byte : Try.prog.underlying 5 = some (.int .u8) := by kernel_rfl
theorem Cv.u_string : Try.prog.underlying 9 = some .string := by kernel_rfl
theorem wpList_conv_bytes (w : World) (hg : o.guard = none) (src : TypeId) (x : Operand) (hop : o.op = Op.convert src 100 x) (hs : Try.prog.underlying src = some .string) (he : Try.prog.underlying 5 = some (.int .u8)) (s : ByteArray) (hx : a.eval x = .string s) (hsz : s.size ≤ maxLen)
    (h : ∀ g cap w', ConvRow w' g (nums s) cap → w.heap.size ≤ g → Only NoBlock w w' → wpList Try.prog ops Q rest (a.put o.dst (.slice (some ⟨g, 0, none⟩) (nums s).length cap)) w') : wpList Try.prog ops Q (o :: rest) a w := by
  refine wpList_plain hg fun K hK => ?_
  have hrun := run_bytes_of_string (P := Try.prog) w src 100 5 s hs By.u_bytes he
  have hge := grownCap_ge w s.size 0 5
  have hle := grownCap_le_maxLen w s.size 0 5 hsz
  unfold Oper.wp
  simp [execOp, hop, hx, hrun, Result.andThen, -World.alloc_eq, -World.drew_eq]
  generalize grownCap w s.size 0 5 = cap at hge hle ⊢
  have hbs : (bytesRow s cap).size = cap := by unfold bytesRow; simp; omega
  rw [hbs, ← nums_length]
  refine hK _ _ (h w.heap.size cap _ ⟨by rw [nums_length]; exact hge, hle, nums_byte s, bytesRow s cap, ?_, hbs, ?_⟩ (Nat.le_refl _) ⟨rfl, rfl, rfl, by simp, fun k hk _ => heap_alloc_old w.drew _ hk⟩)
  · exact heap_alloc_new w.drew _
  · rw [nums_length]
    unfold bytesRow nums
    rw [Array.toList_append, List.take_append_of_le_length (by simp)]
    rw [List.take_of_length_le (by simp)]
    simp [Function.comp_def]

theorem wpList_append_conv (w : World) (hgd : o.guard = none) (s x : Operand) (ho : o.op = .call { callee := .builtin .append, args := #[s, x], argTypes := #[100, 100] })
    (g cap n : Nat) (l : List Int) (hs : a.eval s = .slice (some ⟨g, 0, none⟩) n cap) (hn : n = l.length) (hrow : ConvRow w g l cap) (ad : Addr) (m c : Nat) (news : List Int) (hx : a.eval x = .slice (some ad) m c) (hm : news.length = m)
    (hnews : ∀ j u, (news.map (Value.int .u8))[j]? = some u → w.cell? (ad.add j) = some u) (hwf : ∀ x ∈ news, 0 ≤ x ∧ x ≤ 255) (hlen : l.length + m ≤ 140737488355328) (r : List Int) (hr : l ++ news = r)
    (h : ∀ ao cap' w', BytesIn w' ao r → Only (fun k => k = g) w w' → r.length ≤ cap' → cap' ≤ maxLen → wpList Try.prog ops Q rest (a.put o.dst (.slice ao r.length cap')) w') : wpList Try.prog ops Q (o :: rest) a w := by
  subst hn
  subst hr
  rw [List.length_append, hm] at h
  obtain ⟨i, hi, hz, hsz, hby⟩ := info_parts By.info
  have hrd := hrow.read
  obtain ⟨r1, r2, r3, cur, r4, r5, r6⟩ := hrow
  refine wpList_plain hgd fun K hK => ?_
  have hwf2 : ∀ x ∈ l ++ news, 0 ≤ x ∧ x ≤ 255 := by
    intro x hx
    rcases List.mem_append.1 hx with hx | hx
    · exact r3 x hx
    · exact hwf x hx
  have hml : (l ++ news).length ≤ maxLen := by rw [List.length_append, hm]; unfold maxLen; omega
  unfold Oper.wp execOp
  simp only [ho, resolve, invoke, builtin, Sem.run_bind, Sem.run_pure, Result.andThen_ok, List.map_toArray, List.map_cons, List.map_nil, hs, hx]
  by_cases hroom : l.length + m ≤ cap
  · have hr := Cv.run_append_mark (P := Try.prog) w 100 o.type 5 i By.u_bytes hi hsz cap (cap + 1) g l.length cap cur r4 ad m c (news.map (Value.int .u8)) (by simpa using hm) hnews (by intro u hu; obtain ⟨x, _, rfl⟩ := List.mem_map.1 hu; rfl) hroom (by omega) (by omega)
    rw [hr]
    refine hK _ _ (h (some ⟨g, 0, none⟩) cap _ ⟨hwf2, hml, fun k hk => ⟨g, 0, rfl, ?_⟩⟩ ⟨rfl, rfl, rfl, by simp, fun k _ hk => setRow_other w g k _ hk⟩ hroom r2)
    have hb := setRow_heap w g cur (cur.toList.take l.length ++ news.map (Value.int .u8) ++ cur.toList.drop (l.length + (news.map (Value.int .u8)).length)).toArray _ _ r4
    rw [Nat.zero_add]
    simp only [World.cell?, hb]
    rw [r6, ← List.map_append]
    simp only [List.getElem?_toArray]
    rw [List.getElem?_append_left (by simpa using hk), List.getElem?_map, List.getElem?_eq_getElem hk, List.getD_eq_getElem?_getD, List.getElem?_eq_getElem hk]
    rfl
  · have hr := run_append_grow (P := Try.prog) w 100 o.type 5 i (.int .u8 0) By.u_bytes hi hz ⟨g, 0, none⟩ l.length cap (l.map (Value.int .u8)) (by rw [hsz]; simp) (by
        intro j v hv
        have hj : j < l.length := by have := (List.getElem?_eq_some_iff.1 hv).1; simpa using this
        obtain ⟨b', off', e, hc⟩ := hrd.cell j hj
        cases e
        rw [List.getElem?_map, List.getElem?_eq_getElem hj] at hv
        cases hv
        rw [Addr.add_lit, hc, List.getD_eq_getElem?_getD, List.getElem?_eq_getElem hj]
        rfl) ad m c (news.map (Value.int .u8)) (by rw [hsz]; simpa using hm) hnews (by omega) (by omega) (growslice_fits (by omega) (by rw [hby]; omega))
    rw [hr]
    refine hK _ _ (h (some ⟨w.heap.size, 0, none⟩) _ _ ⟨hwf2, hml, fun k hk => ⟨w.heap.size, 0, rfl, ?_⟩⟩ ⟨rfl, rfl, rfl, by simp, fun k hk _ => heap_alloc_old w.drew _ hk⟩ (grownCap_ge w _ _ _) (grownCap_le_maxLen w _ _ _ (by unfold maxLen; omega)))
    have hb := heap_alloc_new w.drew (.cells ((l.map (Value.int .u8)).toArray ++ (news.map (Value.int .u8)).toArray ++ Builtin.zeroCells (Value.int .u8 0).cells (grownCap w (l.length + m) cap 5 - (l.length + m))) 5)
    rw [Nat.zero_add]
    have hb' : (w.drew.alloc (.cells ((l.map (Value.int .u8)).toArray ++ (news.map (Value.int .u8)).toArray ++ Builtin.zeroCells (Value.int .u8 0).cells (grownCap w (l.length + m) cap 5 - (l.length + m))) 5)).heap[w.heap.size]? = _ := hb
    simp only [World.cell?, hb']
    show (((l.map (Value.int .u8)).toArray ++ (news.map (Value.int .u8)).toArray) ++ _)[k]? = _
    rw [show (l.map (Value.int .u8)).toArray ++ (news.map (Value.int .u8)).toArray = ((l ++ news).map (Value.int .u8)).toArray from by simp]
    rw [Array.getElem?_append_left (by simpa using hk)]
    simp only [List.getElem?_toArray]
    rw [List.getElem?_map, List.getElem?_eq_getElem hk, List.getD_eq_getElem?_getD, List.getElem?_eq_getElem hk]
    rfl

theorem wpList_conv_text (w : World) (hg : o.guard = none) (dst : TypeId) (x : Operand) (hop : o.op = Op.convert 100 dst x) (hd : Try.prog.underlying dst = some .string) (he : Try.prog.underlying 5 = some (.int .u8)) (ao : Option Addr) (n cap : Nat) (l : List Int) (hx : a.eval x = .slice ao n cap) (hn : n = l.length) (hb : BytesIn w ao l)
    (h : wpList Try.prog ops Q rest (a.put o.dst (.string (textOf l))) w) : wpList Try.prog ops Q (o :: rest) a w := by
  subst hn
  refine wpList_plain hg fun K hK => ?_
  have hrun : (convert 100 dst (.slice ao l.length cap)).run Try.prog w = .ok (.string (textOf l)) w := by
    cases l with
    | nil =>
      rw [show ([] : List Int).length = 0 from rfl, run_convert_bytes_string w 100 dst 5 ao 0 cap By.u_bytes he hd]
      cases ao with
      | none => rfl
      | some a =>
        have hl := run_loadCells_list (P := Try.prog) w a ([] : List Value) (fun j v hj => by cases hj)
        exact run_bytesToString w a 0 cap [] hl
    | cons c r =>
      obtain ⟨b, off, rfl, _⟩ := hb.cell 0 (by simp)
      have := run_convert_bytes_back (P := Try.prog) w 100 dst 5 ⟨b, off, none⟩ cap ((c :: r).map (fun x => UInt8.ofNat x.toNat)) By.u_bytes he hd (by
        intro j hj
        have hj' : j < (c :: r).length := by simpa using hj
        obtain ⟨b', off', e, hc⟩ := hb.cell j hj'
        cases e
        have hw := hb.wf _ (List.getElem_mem hj')
        rw [Addr.add_lit, hc, List.getElem_map, List.getD_eq_getElem?_getD, List.getElem?_eq_getElem hj']
        congr 2
        simp only [Option.getD_some]
        rw [UInt8.toNat_ofNat']
        omega)
      rw [List.length_map] at this
      exact this
  unfold Oper.wp
  simp [execOp, hop, hx, hrun, Result.andThen]
  exact hK _ _ h
end

end Go.Proofs.Ytogeeeigfhmpmaa

/- Numbers and texts as bytes, in plain lists: writing, reading, and that what is written is read back. -/
namespace Go.Proofs.Ytogeeeigfhmpmaa.Pk
open Go.RowKit

/-- how many bytes a number needs -/
def size (x : Nat) : Nat := if h : x = 0 then 0 else size (x / 256) + 1
termination_by x
decreasing_by omega
theorem size_zero : size 0 = 0 := by unfold size; simp
theorem size_pos {x : Nat} (h : 0 < x) : size x = size (x / 256) + 1 := by conv => lhs; unfold size; rw [dif_neg (by omega)]
/-- n bytes of a number, the highest first -/
def be : Nat → Nat → List Int
  | 0, _ => []
  | n + 1, x => be n (x / 256) ++ [((x % 256 : Nat) : Int)]
theorem be_length : ∀ n x, (be n x).length = n
  | 0, _ => rfl
  | n + 1, x => by unfold be; rw [List.length_append, be_length n]; rfl
def num (x : Nat) : List Int := (size x : Int) :: be (size x) x
def text (s : List Int) : List Int := num s.length ++ s

theorem size_lt {x : Nat} : ∀ n, x < 256 ^ n → size x ≤ n
  | 0, h => by have : x = 0 := by simpa using h
               rw [this, size_zero]; omega
  | n + 1, h => by
    rcases Nat.eq_zero_or_pos x with h0 | h0
    · rw [h0, size_zero]; omega
    · rw [size_pos h0]
      have := size_lt (x := x / 256) n (by rw [Nat.pow_succ] at h; omega)
      omega
theorem size_le8 {x : Nat} (h : x < 18446744073709551616) : size x ≤ 8 := size_lt 8 (by simpa using h)
theorem lt_size (x : Nat) : x < 256 ^ size x := by
  induction x using Nat.strongRecOn with
  | ind x ih =>
    rcases Nat.eq_zero_or_pos x with h0 | h0
    · subst h0; rw [size_zero]; decide
    · rw [size_pos h0, Nat.pow_succ]
      have := ih (x / 256) (by omega)
      omega
theorem num_length (x : Nat) : (num x).length = size x + 1 := by unfold num; rw [List.length_cons, be_length]
theorem be_byte : ∀ n x, ∀ c ∈ be n x, 0 ≤ c ∧ c ≤ 255
  | 0, _, c, h => by cases h
  | n + 1, x, c, h => by
    unfold be at h
    rcases List.mem_append.1 h with h | h
    · exact be_byte n _ c h
    · simp at h; subst h; omega
theorem num_byte {x : Nat} (h : x < 18446744073709551616) : ∀ c ∈ num x, 0 ≤ c ∧ c ≤ 255 := by
  intro c hc
  unfold num at hc
  rcases List.mem_cons.1 hc with h1 | h1
  · have := size_le8 h; omega
  · exact be_byte _ _ c h1
/-- the byte at place i -/
theorem be_snoc_high (n x : Nat) : be (n + 1) x = ((x / 256 ^ n % 256 : Nat) : Int) :: be n x := by
  induction n generalizing x with
  | zero => simp [be]
  | succ n ih =>
    conv => lhs; unfold be
    rw [ih]
    conv => rhs; rhs; unfold be
    rw [Nat.pow_succ, Nat.div_div_eq_div_mul, Nat.mul_comm 256]
    rfl

theorem be_getD : ∀ (n x j : Nat), j < n → (be n x).getD j 0 = ((x / 256 ^ (n - 1 - j) % 256 : Nat) : Int)
  | 0, _, _, h => by omega
  | n + 1, x, 0, _ => by rw [be_snoc_high, List.getD_cons_zero]; rfl
  | n + 1, x, j + 1, h => by
    rw [be_snoc_high, List.getD_cons_succ, be_getD n x j (by omega)]
    have : n + 1 - 1 - (j + 1) = n - 1 - j := by omega
    rw [this]
theorem be_take {n x j : Nat} (h : j < n) : (be n x).take (j + 1) = (be n x).take j ++ [((x / 256 ^ (n - 1 - j) % 256 : Nat) : Int)] := by
  have hl := be_length n x
  rw [List.take_add_one, List.getElem?_eq_getElem (by omega)]
  have := be_getD n x j h
  rw [List.getD_eq_getElem?_getD, List.getElem?_eq_getElem (by omega), Option.getD_some] at this
  rw [this]; rfl
/-- what bytes say, the highest first -/
def val (l : List Int) : Nat := l.foldl (fun x c => 256 * x + c.toNat) 0
theorem val_nil : val [] = 0 := rfl
theorem val_snoc (l : List Int) (c : Int) : val (l ++ [c]) = 256 * val l + c.toNat := by unfold val; rw [List.foldl_append]; rfl
theorem val_be : ∀ n x, x < 256 ^ n → val (be n x) = x
  | 0, x, h => by have : x = 0 := by simpa using h
                  rw [this]; rfl
  | n + 1, x, h => by
    unfold be
    rw [val_snoc, val_be n (x / 256) (by rw [Nat.pow_succ] at h; omega)]
    omega
theorem foldl_lt : ∀ (l : List Int) (a : Nat), (∀ c ∈ l, 0 ≤ c ∧ c ≤ 255) → l.foldl (fun x c => 256 * x + c.toNat) a < (a + 1) * 256 ^ l.length
  | [], a, _ => by simp
  | c :: t, a, h => by
    rw [List.foldl_cons, List.length_cons, Nat.pow_succ]
    have h1 := foldl_lt t (256 * a + c.toNat) (fun x hx => h x (by simp [hx]))
    have h2 := h c (by simp)
    have h3 : (256 * a + c.toNat + 1) * 256 ^ t.length ≤ (256 * (a + 1)) * 256 ^ t.length := Nat.mul_le_mul_right _ (by omega)
    have h4 : (256 * (a + 1)) * 256 ^ t.length = (a + 1) * (256 ^ t.length * 256) := by rw [Nat.mul_comm 256 (a + 1), Nat.mul_assoc, Nat.mul_comm 256]
    omega
theorem val_lt (l : List Int) (h : ∀ c ∈ l, 0 ≤ c ∧ c ≤ 255) : val l < 256 ^ l.length := by
  have := foldl_lt l 0 h
  unfold val
  omega

/-- a reader: what is left, and whether it failed -/
structure RD where
  s : List Int
  bad : Bool
def RD.fail (_ : RD) : RD := ⟨[], true⟩
/-- may a number be read? -/
def okNum (s : List Int) : Bool := match s with
  | [] => false
  | n :: t => !(decide (8 < n) || decide ((t.length : Int) < n) || (decide (0 < n) && decide (t.getD 0 0 = 0)))
def numV (s : List Int) : Nat := if okNum s = true then val ((s.drop 1).take (s.getD 0 0).toNat) else 0
def numR (r : RD) : RD := if okNum r.s = true then ⟨r.s.drop ((r.s.getD 0 0).toNat + 1), r.bad⟩ else ⟨[], true⟩
def RD.num (r : RD) : Nat × RD := (numV r.s, numR r)
def RD.up (r : RD) (limit : Nat) : Nat × RD := if numV r.s ≤ limit then (numV r.s, numR r) else (0, ⟨[], true⟩)
def RD.text (r : RD) (limit : Nat) : List Int × RD :=
  let u := r.up limit
  if u.1 ≤ u.2.s.length then (u.2.s.take u.1, ⟨u.2.s.drop u.1, u.2.bad⟩) else ([], ⟨[], true⟩)
def RD.done (r : RD) : Bool := r.s.isEmpty && !r.bad

theorem okNum_num {x : Nat} (h : x < 18446744073709551616) (t : List Int) : okNum (num x ++ t) = true := by
  have h8 := size_le8 h
  unfold num okNum
  rw [List.cons_append]
  simp only [Bool.not_eq_true', Bool.or_eq_false_iff, Bool.and_eq_false_iff, decide_eq_false_iff_not]
  refine ⟨⟨by omega, by rw [List.length_append, be_length]; omega⟩, ?_⟩
  rcases Nat.eq_zero_or_pos x with h0 | h0
  · left; rw [h0, size_zero]; omega
  · right
    obtain ⟨n, hn⟩ : ∃ n, size x = n + 1 := ⟨size x - 1, by have := size_pos h0; omega⟩
    rw [hn, be_snoc_high, List.cons_append, List.getD_cons_zero]
    have h1 := lt_size x
    rw [hn, Nat.pow_succ] at h1
    have h2 : 256 ^ n ≤ x := by
      rcases Nat.lt_or_ge x (256 ^ n) with h3 | h3
      · have := size_lt n h3; omega
      · exact h3
    have hp : 0 < 256 ^ n := Nat.pow_pos (by decide)
    have h3 : 1 ≤ x / 256 ^ n := (Nat.le_div_iff_mul_le hp).2 (by omega)
    have h4 : x / 256 ^ n < 256 := (Nat.div_lt_iff_lt_mul hp).2 (by rw [Nat.mul_comm]; exact h1)
    rw [Nat.mod_eq_of_lt h4]
    omega
/-- a number is read back -/
theorem num_back {x : Nat} (h : x < 18446744073709551616) (t : List Int) (b : Bool) : (RD.mk (num x ++ t) b).num = (x, ⟨t, b⟩) := by
  unfold RD.num numV numR
  have ho := okNum_num h t
  simp only
  rw [if_pos ho, if_pos ho]
  unfold num
  rw [List.cons_append, List.getD_cons_zero, Int.toNat_natCast, List.drop_one, List.tail_cons]
  have e1 : (be (size x) x ++ t).take (size x) = be (size x) x := List.take_left' (be_length _ _)
  have e2 : (be (size x) x ++ t).drop (size x) = t := List.drop_left' (be_length _ _)
  rw [e1, val_be _ _ (lt_size x), List.drop_succ_cons, e2]
theorem up_back {x limit : Nat} (h : x ≤ limit) (hl : limit < 18446744073709551616) (t : List Int) (b : Bool) : (RD.mk (num x ++ t) b).up limit = (x, ⟨t, b⟩) := by
  have := num_back (x := x) (by omega) t b
  unfold RD.num at this
  simp only [Prod.mk.injEq] at this
  unfold RD.up
  simp only
  rw [this.1, this.2, if_pos h]
theorem text_back {s : List Int} {limit : Nat} (h : s.length ≤ limit) (hl : limit < 18446744073709551616) (t : List Int) (b : Bool) : (RD.mk (text s ++ t) b).text limit = (s, ⟨t, b⟩) := by
  unfold RD.text text
  rw [List.append_assoc, up_back h hl]
  simp only
  rw [if_pos (by rw [List.length_append]; omega), List.take_left, List.drop_left]
theorem numR_le (r : RD) : (numR r).s.length ≤ r.s.length := by
  unfold numR
  split
  · rw [List.length_drop]; omega
  · exact Nat.zero_le _
theorem okNum_len {s : List Int} (h : okNum s = true) : (s.getD 0 0).toNat + 1 ≤ s.length ∧ (s.getD 0 0).toNat ≤ 8 := by
  cases s with
  | nil => simp [okNum] at h
  | cons n t =>
    unfold okNum at h
    simp only [Bool.not_eq_true', Bool.or_eq_false_iff, Bool.and_eq_false_iff, decide_eq_false_iff_not] at h
    obtain ⟨⟨h1, h2⟩, _⟩ := h
    rw [List.getD_cons_zero, List.length_cons]
    omega
theorem numV_lt {s : List Int} (h : ∀ c ∈ s, 0 ≤ c ∧ c ≤ 255) : numV s < 18446744073709551616 := by
  unfold numV
  split
  next ho =>
    have hl := okNum_len ho
    have h1 := val_lt ((s.drop 1).take (s.getD 0 0).toNat) (fun c hc => h c (List.mem_of_mem_drop (List.mem_of_mem_take hc)))
    refine Nat.lt_of_lt_of_le h1 ?_
    have h8 : ((s.drop 1).take (s.getD 0 0).toNat).length ≤ 8 := by rw [List.length_take]; omega
    have := Nat.pow_le_pow_right (n := 256) (by decide) h8
    have e8 : 256 ^ 8 = 18446744073709551616 := by decide
    omega
  · omega
theorem numR_byte {r : RD} (h : ∀ c ∈ r.s, 0 ≤ c ∧ c ≤ 255) : ∀ c ∈ (numR r).s, 0 ≤ c ∧ c ≤ 255 := by
  unfold numR
  split
  · exact fun c hc => h c (List.mem_of_mem_drop hc)
  · intro c hc; cases hc
end Go.Proofs.Ytogeeeigfhmpmaa.Pk

/- Commands as bytes, in plain lists: what is read is what would be written (layers 03, 13, 16). -/
namespace Go.Proofs.Ytogeeeigfhmpmaa.Pk

def Byt (l : List Int) : Prop := ∀ c ∈ l, 0 ≤ c ∧ c ≤ 255
theorem be_val_rev : ∀ (l : List Int), Byt l → be l.length (val l.reverse) = l.reverse
  | [], _ => rfl
  | c :: t, h => by
    have hc := h c (by simp)
    have ht : Byt t := fun x hx => h x (by simp [hx])
    rw [List.reverse_cons, val_snoc, List.length_cons]
    unfold be
    have e1 : (256 * val t.reverse + c.toNat) / 256 = val t.reverse := by omega
    have e2 : (256 * val t.reverse + c.toNat) % 256 = c.toNat := by omega
    rw [e1, e2, be_val_rev t ht]
    congr 2
    omega
theorem be_val {l : List Int} (h : Byt l) : be l.length (val l) = l := by
  have := be_val_rev l.reverse (fun x hx => h x (by simpa using hx))
  rwa [List.reverse_reverse, List.length_reverse] at this
theorem foldl_ge : ∀ (l : List Int) (a : Nat), a * 256 ^ l.length ≤ l.foldl (fun x c => 256 * x + c.toNat) a
  | [], a => by simp
  | c :: t, a => by
    rw [List.foldl_cons, List.length_cons, Nat.pow_succ]
    have h1 := foldl_ge t (256 * a + c.toNat)
    have h2 : (256 * a) * 256 ^ t.length ≤ (256 * a + c.toNat) * 256 ^ t.length := Nat.mul_le_mul_right _ (by omega)
    have h3 : (256 * a) * 256 ^ t.length = a * (256 ^ t.length * 256) := by rw [Nat.mul_comm 256 a, Nat.mul_assoc, Nat.mul_comm 256]
    omega
theorem size_val {l : List Int} (h : Byt l) (h0 : l = [] ∨ l.getD 0 0 ≠ 0) : size (val l) = l.length := by
  have hle : size (val l) ≤ l.length := size_lt _ (val_lt l h)
  cases l with
  | nil => simp [val_nil, size_zero]
  | cons c t =>
    have hc := h c (by simp)
    have hc0 : c ≠ 0 := by
      rcases h0 with h0 | h0
      · cases h0
      · rwa [List.getD_cons_zero] at h0
    have h1 := foldl_ge t c.toNat
    have hv : val (c :: t) = t.foldl (fun x c => 256 * x + c.toNat) c.toNat := by
      unfold val
      rw [List.foldl_cons]
      simp
    have h2 : 256 ^ t.length ≤ c.toNat * 256 ^ t.length := Nat.le_mul_of_pos_left _ (by omega)
    have h3 := lt_size (val (c :: t))
    rcases Nat.lt_or_ge (size (val (c :: t))) (t.length + 1) with h4 | h4
    · have h5 : 256 ^ size (val (c :: t)) ≤ 256 ^ t.length := Nat.pow_le_pow_right (by decide) (by omega)
      omega
    · rw [List.length_cons] at hle ⊢
      omega
theorem num_canon {s : List Int} (ho : okNum s = true) (hb : Byt s) : s = num (numV s) ++ s.drop ((s.getD 0 0).toNat + 1) := by
  have hl := okNum_len ho
  cases s with
  | nil => simp [okNum] at ho
  | cons n t =>
    rw [List.getD_cons_zero, List.length_cons] at hl
    have hn := hb n (by simp)
    have hbt : Byt (t.take n.toNat) := fun c hc => hb c (by simp [List.mem_of_mem_take hc])
    have hlen : (t.take n.toNat).length = n.toNat := by rw [List.length_take]; omega
    have hv : numV (n :: t) = val (t.take n.toNat) := by
      unfold numV
      rw [if_pos ho, List.drop_one, List.tail_cons, List.getD_cons_zero]
    have h0 : t.take n.toNat = [] ∨ (t.take n.toNat).getD 0 0 ≠ 0 := by
      by_cases hz : n.toNat = 0
      · left; rw [hz]; rfl
      · right
        unfold okNum at ho
        simp only [Bool.not_eq_true', Bool.or_eq_false_iff, Bool.and_eq_false_iff, decide_eq_false_iff_not] at ho
        have h2 := ho.2.resolve_left (by omega)
        rw [List.getD_eq_getElem?_getD, List.getElem?_take, if_pos (by omega), ← List.getD_eq_getElem?_getD]
        exact h2
    have hs := size_val hbt h0
    rw [hlen] at hs
    have hbe := be_val hbt
    rw [hlen] at hbe
    rw [hv]
    unfold num
    rw [hs, hbe, List.getD_cons_zero, List.drop_succ_cons, List.cons_append, List.take_append_drop]
    congr 1
    omega
theorem numR_bad {r : RD} (h : (numR r).bad = false) : okNum r.s = true ∧ r.bad = false := by
  unfold numR at h
  split at h
  · rename_i ho; exact ⟨ho, h⟩
  · cases h
theorem numR_byt {r : RD} (h : Byt r.s) : Byt (numR r).s := numR_byte h
theorem num_byt {r : RD} (h : Byt r.s) : Byt r.num.2.s := numR_byte h
theorem num_eq {r : RD} (hb : Byt r.s) (h : r.num.2.bad = false) : r.bad = false ∧ r.s = num r.num.1 ++ r.num.2.s := by
  obtain ⟨h1, h2⟩ := numR_bad h
  refine ⟨h2, ?_⟩
  unfold RD.num numR
  simp only [if_pos h1]
  exact num_canon h1 hb
theorem up_fst {r : RD} {m : Nat} : (r.up m).1 ≤ m := by
  unfold RD.up
  split
  · rename_i h; exact h
  · exact Nat.zero_le _
theorem up_bad {r : RD} {m : Nat} (h : (r.up m).2.bad = false) : numV r.s ≤ m ∧ (r.up m) = r.num := by
  unfold RD.up at h ⊢
  split at h
  · rename_i hm; exact ⟨hm, by rw [if_pos hm]; rfl⟩
  · cases h
theorem up_eq {r : RD} {m : Nat} (hb : Byt r.s) (h : (r.up m).2.bad = false) : r.bad = false ∧ r.s = num (r.up m).1 ++ (r.up m).2.s := by
  have h1 := (up_bad h).2
  rw [h1] at h ⊢
  exact num_eq hb h
theorem up_byt {r : RD} {m : Nat} (hb : Byt r.s) : Byt (r.up m).2.s := by
  unfold RD.up
  split
  · exact numR_byt hb
  · intro c hc; cases hc
theorem text_bad {r : RD} {m : Nat} (h : (r.text m).2.bad = false) : (r.up m).2.bad = false ∧ (r.up m).1 ≤ (r.up m).2.s.length ∧ (r.text m) = ((r.up m).2.s.take (r.up m).1, ⟨(r.up m).2.s.drop (r.up m).1, (r.up m).2.bad⟩) := by
  unfold RD.text at h ⊢
  simp only at h ⊢
  split at h
  · rename_i hm; exact ⟨h, hm, by rw [if_pos hm]⟩
  · cases h
theorem text_eq {r : RD} {m : Nat} (hb : Byt r.s) (h : (r.text m).2.bad = false) : r.bad = false ∧ r.s = text (r.text m).1 ++ (r.text m).2.s ∧ (r.text m).1.length ≤ m := by
  obtain ⟨h1, h2, h3⟩ := text_bad h
  obtain ⟨h4, h5⟩ := up_eq hb h1
  rw [h3]
  simp only
  have hl : ((r.up m).2.s.take (r.up m).1).length = (r.up m).1 := by rw [List.length_take]; omega
  refine ⟨h4, ?_, by rw [hl]; exact up_fst⟩
  unfold text
  rw [hl, List.append_assoc, List.take_append_drop]
  exact h5
theorem text_byt {r : RD} {m : Nat} (hb : Byt r.s) : Byt (r.text m).2.s := by
  unfold RD.text
  simp only
  split
  · exact fun c hc => up_byt hb c (List.mem_of_mem_drop hc)
  · intro c hc; cases hc
/-- a limit more or less plays no part where what is read is within both -/
theorem up_less {r : RD} {m k : Nat} (h : (r.up m).2.bad = false) (hk : (r.up m).1 ≤ k) : r.up k = r.up m := by
  obtain ⟨h1, h2⟩ := up_bad h
  rw [h2] at hk ⊢
  have hk' : numV r.s ≤ k := hk
  unfold RD.up
  rw [if_pos hk']
  rfl
theorem up_more {r : RD} {m k : Nat} (h : (r.up m).2.bad = false) (hk : m ≤ k) : r.up k = r.up m := by
  obtain ⟨h1, h2⟩ := up_bad h
  rw [h2]
  unfold RD.up
  rw [if_pos (by omega)]
  rfl
/-- what failed stays so -/
theorem num_stays {r : RD} (h : r.num.2.bad = false) : r.bad = false := (numR_bad h).2
theorem up_stays {r : RD} {m : Nat} (h : (r.up m).2.bad = false) : r.bad = false := by
  have h1 := (up_bad h).2
  rw [h1] at h
  exact num_stays h
theorem text_stays {r : RD} {m : Nat} (h : (r.text m).2.bad = false) : r.bad = false := up_stays (text_bad h).1

/-- a step -/
structure Stp where
  part : Nat
  name : List Int
  budget : Nat
def encS (t : Stp) : List Int := num t.part ++ text t.name ++ num t.budget
def encSs (l : List Stp) : List Int := num l.length ++ l.flatMap encS
def rdS (r : RD) : Stp × RD :=
  let a := r.up 3
  let b := a.2.text 16
  let c := b.2.up 9
  (⟨a.1, b.1, c.1⟩, c.2)
def rdSn : Nat → RD → List Stp × RD
  | 0, r => ([], r)
  | n + 1, r => let x := rdS r; let y := rdSn n x.2; (x.1 :: y.1, y.2)
/-- the steps that are read; what failed is none -/
def rdSs (r : RD) : List Stp × RD := let u := r.up 64; let y := rdSn u.1 u.2; (if y.2.bad = true then [] else y.1, y.2)
theorem rdS_eq {r : RD} (hb : Byt r.s) (h : (rdS r).2.bad = false) : r.bad = false ∧ r.s = encS (rdS r).1 ++ (rdS r).2.s ∧ Byt (rdS r).2.s := by
  unfold rdS at h ⊢
  simp only at h ⊢
  have b1 := up_byt (m := 3) hb
  have b2 := text_byt (m := 16) b1
  obtain ⟨h1, e1⟩ := up_eq b2 h
  obtain ⟨h2, e2, _⟩ := text_eq b1 h1
  obtain ⟨h3, e3⟩ := up_eq hb h2
  refine ⟨h3, ?_, up_byt b2⟩
  unfold encS
  rw [List.append_assoc, List.append_assoc, ← e1, ← e2]
  exact e3
theorem rdS_stays {r : RD} (h : (rdS r).2.bad = false) : r.bad = false := by
  unfold rdS at h
  simp only at h
  exact up_stays (text_stays (up_stays h))
theorem rdSn_stays : ∀ (n : Nat) (r : RD), (rdSn n r).2.bad = false → r.bad = false
  | 0, _, h => h
  | n + 1, _, h => rdS_stays (rdSn_stays n _ h)
theorem rdSn_len : ∀ (n : Nat) (r : RD), (rdSn n r).1.length = n
  | 0, _ => rfl
  | n + 1, _ => by
    unfold rdSn
    simp only [List.length_cons]
    rw [rdSn_len n]
theorem rdSn_eq : ∀ (n : Nat) (r : RD), Byt r.s → (rdSn n r).2.bad = false → r.s = (rdSn n r).1.flatMap encS ++ (rdSn n r).2.s ∧ Byt (rdSn n r).2.s
  | 0, r, hb, _ => ⟨rfl, hb⟩
  | n + 1, r, hb, h => by
    unfold rdSn at h ⊢
    simp only at h ⊢
    have h1 : (rdS r).2.bad = false := rdSn_stays n _ h
    obtain ⟨_, e1, b1⟩ := rdS_eq hb h1
    obtain ⟨e2, b2⟩ := rdSn_eq n _ b1 h
    refine ⟨?_, b2⟩
    rw [List.flatMap_cons, List.append_assoc, ← e2]
    exact e1
theorem rdSs_eq {r : RD} (hb : Byt r.s) (h : (rdSs r).2.bad = false) : r.bad = false ∧ r.s = encSs (rdSs r).1 ++ (rdSs r).2.s ∧ Byt (rdSs r).2.s := by
  unfold rdSs at h ⊢
  simp only at h ⊢
  have h1 : (r.up 64).2.bad = false := rdSn_stays _ _ h
  obtain ⟨h2, e1⟩ := up_eq hb h1
  obtain ⟨e2, b2⟩ := rdSn_eq _ _ (up_byt (m := 64) hb) h
  refine ⟨h2, ?_, b2⟩
  rw [if_neg (by rw [h]; exact Bool.false_ne_true)]
  unfold encSs
  rw [rdSn_len, List.append_assoc, ← e2]
  exact e1
theorem rdSs_stays {r : RD} (h : (rdSs r).2.bad = false) : r.bad = false := by
  unfold rdSs at h
  simp only at h
  exact up_stays (rdSn_stays _ _ h)
def okS (t : Stp) : Bool := decide (t.part ≤ 3) && decide (1 ≤ t.name.length) && decide (t.name.length ≤ 16) && decide (1 ≤ t.budget) && decide (t.budget ≤ 9)
def okSs (l : List Stp) : Bool := decide (1 ≤ l.length) && decide (l.length ≤ 64) && l.all okS

/-- a command -/
structure Cmd where
  kind : Nat
  session : Nat
  seq : Nat
  saga : Nat
  steps : List Stp
  step : Nat
  back : Bool
  try_ : Nat
  ok : Bool
  now : Nat
def bare (c : Cmd) : Bool := decide (c.step = 0) && !c.back && decide (c.try_ = 0) && !c.ok
/-- may a command be? -/
def may (c : Cmd) : Bool :=
  if c.kind = 1 ∨ c.kind = 3 ∨ c.kind = 5 then c.steps.isEmpty && bare c
  else if c.kind = 2 then okSs c.steps && bare c
  else if c.kind = 4 then c.steps.isEmpty && decide (c.step < 64) && decide (c.try_ < 9) && decide (c.session = 0) && decide (c.seq = 0)
  else false
def truth (b : Bool) : Nat := if b = true then 1 else 0
def enc (c : Cmd) : List Int :=
  num c.kind ++ num c.session ++ num c.seq ++ num c.saga ++ num c.now ++ (if c.kind = 2 then encSs c.steps else if c.kind = 4 then num c.step ++ num (truth c.back) ++ num c.try_ ++ num (truth c.ok) else [])
/-- what is read, a step below m, a try below k -/
def rdC (m k : Nat) (s : List Int) : Cmd × RD :=
  let a := (RD.mk s false).up 5
  let b := a.2.num
  let c := b.2.num
  let d := c.2.num
  let e := d.2.num
  if a.1 = 2 then (let y := rdSs e.2; (⟨a.1, b.1, c.1, d.1, y.1, 0, false, 0, false, e.1⟩, y.2))
  else if a.1 = 4 then (let f := e.2.up m; let g := f.2.up 1; let h := g.2.up k; let i := h.2.up 1; (⟨a.1, b.1, c.1, d.1, [], f.1, decide (g.1 = 1), h.1, decide (i.1 = 1), e.1⟩, i.2))
  else (⟨a.1, b.1, c.1, d.1, [], 0, false, 0, false, e.1⟩, e.2)
/-- the program's Decode -/
def dec (s : List Int) : Option Cmd := let x := rdC 64 9 s; if x.2.done = true ∧ may x.1 = true then some x.1 else none
theorem truth_one {x : Nat} (h : x ≤ 1) : truth (decide (x = 1)) = x := by
  unfold truth
  by_cases e : x = 1
  · rw [if_pos (by simpa using e)]; exact e.symm
  · rw [if_neg (by simpa using e)]; omega
/-- what is read is what would be written -/
theorem rdC_canon {m k : Nat} {s : List Int} (hb : Byt s) (h : (rdC m k s).2.bad = false) : s = enc (rdC m k s).1 ++ (rdC m k s).2.s := by
  unfold rdC at h ⊢
  simp only at h ⊢
  have hb0 : Byt (RD.mk s false).s := hb
  have b1 := up_byt (m := 5) hb0
  have b2 := num_byt b1
  have b3 := num_byt b2
  have b4 := num_byt b3
  have b5 := num_byt b4
  have chain : (((((RD.mk s false).up 5).2.num).2.num).2.num).2.num.2.bad = false → s = num ((RD.mk s false).up 5).1 ++ num (((RD.mk s false).up 5).2.num).1 ++ num ((((RD.mk s false).up 5).2.num).2.num).1 ++ num (((((RD.mk s false).up 5).2.num).2.num).2.num).1 ++ num ((((((RD.mk s false).up 5).2.num).2.num).2.num).2.num).1 ++ ((((((RD.mk s false).up 5).2.num).2.num).2.num).2.num).2.s := fun h5 => by
    obtain ⟨h4, e5⟩ := num_eq b4 h5
    obtain ⟨h3, e4⟩ := num_eq b3 h4
    obtain ⟨h2, e3⟩ := num_eq b2 h3
    obtain ⟨h1, e2⟩ := num_eq b1 h2
    obtain ⟨_, e1⟩ := up_eq hb0 h1
    rw [List.append_assoc, List.append_assoc, List.append_assoc, List.append_assoc, ← e5, ← e4, ← e3, ← e2]
    exact e1
  split at h
  · rename_i hk
    rw [if_pos hk]
    obtain ⟨h5, e6, _⟩ := rdSs_eq b5 h
    unfold enc
    simp only [if_pos hk]
    rw [List.append_assoc, ← e6]
    exact chain h5
  · rename_i hk
    split at h
    · rename_i hk4
      rw [if_neg hk, if_pos hk4]
      have b6 := up_byt (m := m) b5
      have b7 := up_byt (m := 1) b6
      have b8 := up_byt (m := k) b7
      obtain ⟨h8, e9⟩ := up_eq b8 h
      obtain ⟨h7, e8⟩ := up_eq b7 h8
      obtain ⟨h6, e7⟩ := up_eq b6 h7
      obtain ⟨h5, e6⟩ := up_eq b5 h6
      have e10 : (((((((RD.mk s false).up 5).2.num).2.num).2.num).2.num).2).s = num ((((((((RD.mk s false).up 5).2.num).2.num).2.num).2.num).2).up m).1 ++ (num (((((((((RD.mk s false).up 5).2.num).2.num).2.num).2.num).2).up m).2.up 1).1 ++ (num ((((((((((RD.mk s false).up 5).2.num).2.num).2.num).2.num).2).up m).2.up 1).2.up k).1 ++ (num (((((((((((RD.mk s false).up 5).2.num).2.num).2.num).2.num).2).up m).2.up 1).2.up k).2.up 1).1 ++ (((((((((((RD.mk s false).up 5).2.num).2.num).2.num).2.num).2).up m).2.up 1).2.up k).2.up 1).2.s))) := by
        rw [← e9, ← e8, ← e7]
        exact e6
      have h10 := chain h5
      rw [e10] at h10
      unfold enc
      simp only [if_neg hk, if_pos hk4]
      rw [truth_one up_fst, truth_one up_fst]
      simpa [List.append_assoc] using h10
    · rename_i hk4
      rw [if_neg hk, if_neg hk4]
      unfold enc
      simp only [if_neg hk, if_neg hk4, List.append_nil]
      exact chain h
theorem dec_canon {s : List Int} {c : Cmd} (hb : Byt s) (h : dec s = some c) : enc c = s ∧ may c = true := by
  unfold dec at h
  simp only at h
  split at h
  · rename_i hc
    cases h
    obtain ⟨h1, h2⟩ := hc
    unfold RD.done at h1
    simp only [Bool.and_eq_true, Bool.not_eq_true', List.isEmpty_iff] at h1
    have := rdC_canon hb h1.2
    rw [h1.1, List.append_nil] at this
    exact ⟨this.symm, h2⟩
  · cases h
/-- the document's Decode: other limits, and what is read is compared with what would be written -/
def decR (s : List Int) : Option Cmd := let x := rdC 63 8 s; if x.2.done = true ∧ may x.1 = true ∧ enc x.1 = s then some x.1 else none
theorem rdC_less {s : List Int} (h : (rdC 64 9 s).2.bad = false) (hm : may (rdC 64 9 s).1 = true) : rdC 63 8 s = rdC 64 9 s := by
  unfold rdC at h hm ⊢
  simp only at h hm ⊢
  by_cases hk : ((RD.mk s false).up 5).1 = 2
  · rw [if_pos hk, if_pos hk]
  · rw [if_neg hk] at h hm
    rw [if_neg hk, if_neg hk]
    by_cases hk4 : ((RD.mk s false).up 5).1 = 4
    · rw [if_pos hk4] at h hm
      rw [if_pos hk4, if_pos hk4]
      generalize ((((((RD.mk s false).up 5).2.num).2.num).2.num).2.num).2 = E at h hm ⊢
      simp only at h
      have h1 := up_stays h
      have h2 := up_stays h1
      have h3 := up_stays h2
      unfold may at hm
      simp only [hk4] at hm
      simp at hm
      have e1 : E.up 63 = E.up 64 := up_less h3 (by omega)
      have e2 : ((E.up 64).2.up 1).2.up 8 = ((E.up 64).2.up 1).2.up 9 := up_less h1 (by omega)
      rw [e1, e2]
    · rw [if_neg hk4, if_neg hk4]
theorem rdC_more {s : List Int} (h : (rdC 63 8 s).2.bad = false) : rdC 64 9 s = rdC 63 8 s := by
  unfold rdC at h ⊢
  simp only at h ⊢
  by_cases hk : ((RD.mk s false).up 5).1 = 2
  · rw [if_pos hk, if_pos hk]
  · rw [if_neg hk] at h
    rw [if_neg hk, if_neg hk]
    by_cases hk4 : ((RD.mk s false).up 5).1 = 4
    · rw [if_pos hk4] at h
      rw [if_pos hk4, if_pos hk4]
      generalize ((((((RD.mk s false).up 5).2.num).2.num).2.num).2.num).2 = E at h ⊢
      simp only at h
      have h1 := up_stays h
      have h2 := up_stays h1
      have h3 := up_stays h2
      have e1 : E.up 64 = E.up 63 := up_more h3 (by omega)
      have e2 : ((E.up 63).2.up 1).2.up 9 = ((E.up 63).2.up 1).2.up 8 := up_more h1 (by omega)
      rw [e1, e2]
    · rw [if_neg hk4, if_neg hk4]
theorem done_bad {r : RD} (h : r.done = true) : r.bad = false ∧ r.s = [] := by
  unfold RD.done at h
  simp only [Bool.and_eq_true, Bool.not_eq_true', List.isEmpty_iff] at h
  exact ⟨h.2, h.1⟩
/-- both read the same -/
theorem decR_eq {s : List Int} (hb : Byt s) : decR s = dec s := by
  unfold decR dec
  simp only
  by_cases h : (rdC 64 9 s).2.done = true ∧ may (rdC 64 9 s).1 = true
  · have e := rdC_less (done_bad h.1).1 h.2
    have hc := rdC_canon hb (done_bad h.1).1
    rw [(done_bad h.1).2, List.append_nil] at hc
    rw [if_pos h, e, if_pos ⟨h.1, h.2, hc.symm⟩]
  · rw [if_neg h, if_neg]
    rintro ⟨h1, h2, _⟩
    have e := rdC_more (done_bad h1).1
    rw [e] at h
    exact h ⟨h1, h2⟩
end Go.Proofs.Ytogeeeigfhmpmaa.Pk

/- Rows of a saga's steps that are read. -/
namespace Go.Proofs.Ytogeeeigfhmpmaa
open Go.RowKit

/-- a step in plain data, as it lies -/
structure StD where
  part : Int
  name : ByteArray
  budget : Int
/-- one step lies at b, o -/
structure StepAt (w : World) (b o : Nat) (s : StD) : Prop where
  c0 : w.cell? ⟨b, o, none⟩ = some (.int .i64 s.part)
  c1 : w.cell? ⟨b, o + 1, none⟩ = some (.string s.name)
  c2 : w.cell? ⟨b, o + 2, none⟩ = some (.int .i64 s.budget)
  name : s.name.size ≤ maxLen
structure StepsIn (w : World) (ao : Option Addr) (l : List StD) : Prop where
  len : l.length ≤ maxLen
  step : ∀ i (h : i < l.length), ∃ b off, ao = some ⟨b, off, none⟩ ∧ StepAt w b (off + i * 3) l[i]
theorem StepsIn.keeps {S : Nat → Prop} {w w' : World} {ao : Option Addr} {l : List StD} (h : StepsIn w ao l) (ho : Only S w w') (hs : ∀ a, ao = some a → ¬ S a.block) : StepsIn w' ao l :=
  ⟨h.len, fun i hi => by
    obtain ⟨b, off, e, hc⟩ := h.step i hi
    have hb : w'.heap[b]? = w.heap[b]? := ho.block b (World.block_lt_of_cell? w _ hc.c0) (hs _ e)
    exact ⟨b, off, e, ⟨(World.cell?_of_block (a := ⟨b, off + i * 3, none⟩) hb).trans hc.c0, (World.cell?_of_block (a := ⟨b, off + i * 3 + 1, none⟩) hb).trans hc.c1, (World.cell?_of_block (a := ⟨b, off + i * 3 + 2, none⟩) hb).trans hc.c2, hc.name⟩⟩⟩
theorem StepsIn.nil (w : World) : StepsIn w none [] := ⟨by simp, fun i h => by simp at h⟩
/-- a step that was read -/
def StD.of (t : Pk.Stp) : StD := ⟨t.part, textOf t.name, t.budget⟩
def StD.ok (s : StD) : Bool := decide (0 ≤ s.part) && decide (s.part < 4) && decide (1 ≤ s.name.size) && decide (s.name.size ≤ 16) && decide (1 ≤ s.budget) && decide (s.budget ≤ 9)
theorem StD.ok_of (t : Pk.Stp) : (StD.of t).ok = Pk.okS t := by
  unfold StD.ok StD.of Pk.okS
  simp only [textOf_size]
  rw [Bool.eq_iff_iff]
  simp only [Bool.and_eq_true, decide_eq_true_eq]
  omega
/-- plan.Check -/
def checkD (l : List StD) : Int := if 1 ≤ l.length ∧ l.length ≤ 64 ∧ l.all StD.ok = true then 0 else 44
end Go.Proofs.Ytogeeeigfhmpmaa

/- plan.Check: is it a saga's definition? -/
namespace Go.Proofs.Ytogeeeigfhmpmaa
open Go.RowKit
set_option maxRecDepth 100000

set_option maxHeartbeats 4000000 in
theorem check_at (w : World) (ao : Option Addr) (cap : Nat) (l : List StD) (h : StepsIn w ao l) :
    Calls Try.prog 77 #[.slice ao l.length cap] w fun e w' => e = .returned (.int .i64 (checkD l)) ∧ Only NoBlock w w' := by
  have hll := h.len
  unfold maxLen at hll
  go_enter Try.func77, Try.ntmps77
  by_cases h1 : l.length < 1
  · have hb : decide ((l.length : Int) < 1) = true := by rw [decide_eq_true_eq]; omega
    have HC : RowKit.Hid (checkD l = 44) := Lib.hid (by unfold checkD; rw [if_neg (by omega)])
    clear h1
    go_wp2_with fail
    go_ret
    exact ⟨by rw [HC.out]; rfl, Only.refl _ _⟩
  have hb : decide ((l.length : Int) < 1) = false := by rw [decide_eq_false_iff_not]; omega
  by_cases h2 : 64 < l.length
  · have hb2 : decide (64 < (l.length : Int)) = true := by rw [decide_eq_true_eq]; omega
    have HC : RowKit.Hid (checkD l = 44) := Lib.hid (by unfold checkD; rw [if_neg (by omega)])
    clear h1 h2
    go_wp2_with fail
    go_ret
    exact ⟨by rw [HC.out]; rfl, Only.refl _ _⟩
  have hb2 : decide (64 < (l.length : Int)) = false := by rw [decide_eq_false_iff_not]; omega
  have HL : RowKit.Hid (1 ≤ l.length ∧ l.length ≤ 64) := Lib.hid (by omega)
  clear h1 h2
  go_wp2_with fail
  go_loopw [15] (fun u15 wr => ∃ k : Nat, k ≤ l.length ∧ u15 = .int .i64 k ∧ RowKit.Hid (∀ j (hj : j < l.length), j < k → l[j].ok = true) ∧ Only NoBlock w wr) (fun u15 _ => l.length - (intOf u15).toNat)
  case atStart => exact ⟨0, by omega, rfl, Lib.hid (fun j _ hj => by omega), Only.refl _ _⟩
  case round =>
    obtain ⟨k, hk, rfl, HN, ho⟩ := hrel
    by_cases hlt : k < l.length
    · obtain ⟨b, off, rfl, hc⟩ := (h.keeps ho (fun _ _ h => h)).step k hlt
      obtain ⟨s, hs⟩ : ∃ s, l[k] = s := ⟨_, rfl⟩
      rw [hs] at hc
      have HS := Lib.hid hs
      obtain ⟨c0, c1, c2, cn⟩ := hc
      obtain ⟨sp, sn, sb⟩ := s
      simp only at c0 c1 c2 cn
      unfold maxLen at cn
      have hA := (Only.refl NoBlock wr).alloc (Obj.cells #[.int .i64 sp, .string sn, .int .i64 sb] 38)
      have BAD : StD.ok ⟨sp, sn, sb⟩ = false → checkD l = 44 := fun hb => by
        unfold checkD
        rw [if_neg]
        rintro ⟨_, _, ha⟩
        have := List.all_eq_true.1 ha l[k] (List.getElem_mem hlt)
        rw [HS.out, hb] at this
        cases this
      clear hs
      by_cases q0 : sp < 0
      · have p0 : decide (sp < 0) = true := by rw [decide_eq_true_eq]; omega
        have HB := Lib.hid (BAD (by unfold StD.ok; simp; omega))
        clear BAD q0
        go_wp2_with fail
        go_ret
        exact ⟨by rw [HB.out]; rfl, ho.trans hA⟩
      have p0 : decide (sp < 0) = false := by rw [decide_eq_false_iff_not]; omega
      by_cases q1 : 4 ≤ sp
      · have p1 : decide (4 ≤ sp) = true := by rw [decide_eq_true_eq]; omega
        have HB := Lib.hid (BAD (by unfold StD.ok; simp; omega))
        clear BAD q0 q1
        go_wp2_with fail
        go_ret
        exact ⟨by rw [HB.out]; rfl, ho.trans hA⟩
      have p1 : decide (4 ≤ sp) = false := by rw [decide_eq_false_iff_not]; omega
      by_cases q2 : sn.size = 0
      · have p2 : (sn.toList.isEmpty) = true := empty_of_size q2
        have HB := Lib.hid (BAD (by unfold StD.ok; simp; omega))
        clear BAD q0 q1 q2
        go_wp2_with fail
        go_ret
        exact ⟨by rw [HB.out]; rfl, ho.trans hA⟩
      have p2 : (sn.toList.isEmpty) = false := full_of_size q2
      by_cases q3 : 16 < sn.size
      · have p3 : decide (16 < (sn.size : Int)) = true := by rw [decide_eq_true_eq]; omega
        have HB := Lib.hid (BAD (by unfold StD.ok; simp; omega))
        clear BAD q0 q1 q2 q3
        go_wp2_with fail
        go_ret
        exact ⟨by rw [HB.out]; rfl, ho.trans hA⟩
      have p3 : decide (16 < (sn.size : Int)) = false := by rw [decide_eq_false_iff_not]; omega
      by_cases q4 : sb < 1
      · have p4 : decide (sb < 1) = true := by rw [decide_eq_true_eq]; omega
        have HB := Lib.hid (BAD (by unfold StD.ok; simp; omega))
        clear BAD q0 q1 q2 q3 q4
        go_wp2_with fail
        go_ret
        exact ⟨by rw [HB.out]; rfl, ho.trans hA⟩
      have p4 : decide (sb < 1) = false := by rw [decide_eq_false_iff_not]; omega
      by_cases q5 : 9 < sb
      · have p5 : decide (9 < sb) = true := by rw [decide_eq_true_eq]; omega
        have HB := Lib.hid (BAD (by unfold StD.ok; simp; omega))
        clear BAD q0 q1 q2 q3 q4 q5
        go_wp2_with fail
        go_ret
        exact ⟨by rw [HB.out]; rfl, ho.trans hA⟩
      have p5 : decide (9 < sb) = false := by rw [decide_eq_false_iff_not]; omega
      have HOK : RowKit.Hid (StD.ok ⟨sp, sn, sb⟩ = true) := Lib.hid (by unfold StD.ok; simp; omega)
      clear BAD q0 q1 q2 q3 q4 q5
      go_wp2_with fail
      go_roundw
      case rel =>
        exact ⟨k + 1, by omega, by go_num, Lib.hid (fun j hj hjk => by
          by_cases hjk' : j < k
          · exact HN.out j hj hjk'
          · obtain rfl : j = k := by omega
            exact (congrArg StD.ok HS.out).trans HOK.out), ho.trans hA⟩
      case measure =>
        (try simp [intOf])
        (try omega)
    · have HC : RowKit.Hid (checkD l = 0) := Lib.hid (by
        unfold checkD
        refine if_pos ⟨HL.out.1, HL.out.2, ?_⟩
        rw [List.all_eq_true]
        intro x hx
        obtain ⟨j, hj, rfl⟩ := List.mem_iff_getElem.1 hx
        exact HN.out j hj (by omega))
      obtain rfl : k = l.length := by omega
      go_wp2_with fail
      go_ret
      exact ⟨by rw [HC.out]; rfl, ho⟩
end Go.Proofs.Ytogeeeigfhmpmaa

/- Rows of steps, as a kind of rows. -/
namespace Go.Proofs.Ytogeeeigfhmpmaa
open Go.RowKit

def stpK : RowK Pk.Stp := ⟨fun t => [.int .i64 t.part, .string (textOf t.name), .int .i64 t.budget], 3, ⟨0, [], 0⟩, by decide, fun _ => rfl, by
  intro x u hu
  simp at hu
  rcases hu with rfl | rfl | rfl <;> rfl⟩
theorem stpT : RowT Try.prog stpK 38 29 (.agg #[.int .i64 0, .string ByteArray.empty, .int .i64 0]) 32 := ⟨by kernel_rfl, by kernel_rfl, rfl, by decide⟩
/-- steps as they can be read -/
structure SmallS (t : Pk.Stp) : Prop where
  part : t.part ≤ 3
  name : t.name.length ≤ 16
  budget : t.budget ≤ 9
theorem okS_small {t : Pk.Stp} (h : Pk.okS t = true) : SmallS t := by
  unfold Pk.okS at h
  simp only [Bool.and_eq_true, decide_eq_true_eq] at h
  exact ⟨by omega, by omega, by omega⟩
def Smalls (l : List Pk.Stp) : Prop := l.length ≤ 64 ∧ ∀ t ∈ l, SmallS t
theorem okSs_small {l : List Pk.Stp} (h : Pk.okSs l = true) : Smalls l := by
  unfold Pk.okSs at h
  simp only [Bool.and_eq_true, decide_eq_true_eq, List.all_eq_true] at h
  exact ⟨h.1.2, fun t ht => okS_small (h.2 t ht)⟩
theorem rdS_small (r : Pk.RD) : SmallS (Pk.rdS r).1 := by
  refine ⟨Pk.up_fst, ?_, Pk.up_fst⟩
  show ((r.up 3).2.text 16).1.length ≤ 16
  unfold Pk.RD.text
  simp only
  split
  · rw [List.length_take]; have := Pk.up_fst (r := (r.up 3).2) (m := 16); omega
  · simp
theorem rdSn_small : ∀ (n : Nat) (r : Pk.RD), ∀ t ∈ (Pk.rdSn n r).1, SmallS t
  | 0, _, t, h => by cases h
  | n + 1, r, t, h => by
    unfold Pk.rdSn at h
    simp only at h
    rcases List.mem_cons.1 h with h | h
    · rw [h]; exact rdS_small r
    · exact rdSn_small n _ t h
theorem rdSs_small (r : Pk.RD) : Smalls (Pk.rdSs r).1 := by
  unfold Pk.rdSs
  simp only
  split
  · exact ⟨by simp, by simp⟩
  · exact ⟨by rw [Pk.rdSn_len]; exact Pk.up_fst, rdSn_small _ _⟩
theorem RowIn.steps {w : World} {ao : Option Addr} {l : List Pk.Stp} (h : RowIn stpK 38 w ao l) (hs : Smalls l) : StepsIn w ao (l.map StD.of) := by
  refine ⟨by rw [List.length_map]; have := hs.1; unfold maxLen; omega, fun i hi => ?_⟩
  rw [List.length_map] at hi
  obtain ⟨b, off, e, hc⟩ := h.cell i hi
  refine ⟨b, off, e, ?_⟩
  have hg : l.getD i stpK.zero = l[i] := by rw [List.getD_eq_getElem?_getD, List.getElem?_eq_getElem hi]; rfl
  rw [List.getElem_map]
  rw [hg] at hc
  have hn := (hs.2 _ (List.getElem_mem hi)).name
  exact ⟨hc 0 (by decide), hc 1 (by decide), hc 2 (by decide), by show (textOf l[i].name).size ≤ maxLen; rw [textOf_size]; unfold maxLen; omega⟩
theorem checkD_of (l : List Pk.Stp) : checkD (l.map StD.of) = if Pk.okSs l = true then 0 else 44 := by
  unfold checkD Pk.okSs
  rw [List.length_map, List.all_map]
  have : (StD.ok ∘ StD.of) = Pk.okS := by funext t; exact StD.ok_of t
  rw [this]
  by_cases h : 1 ≤ l.length ∧ l.length ≤ 64 ∧ l.all Pk.okS = true
  · rw [if_pos h, if_pos (by simp [h.1, h.2.1, h.2.2])]
  · rw [if_neg h, if_neg (fun h2 => h (by simp only [Bool.and_eq_true, decide_eq_true_eq] at h2; exact ⟨h2.1.1, h2.1.2, h2.2⟩))]
/-- plan.Check of a row of steps -/
theorem checkS_at (w : World) (ao : Option Addr) (cap : Nat) (l : List Pk.Stp) (h : RowIn stpK 38 w ao l) (hs : Smalls l) :
    Calls Try.prog 77 #[.slice ao l.length cap] w fun e w' => e = .returned (.int .i64 (if Pk.okSs l = true then 0 else 44)) ∧ Only NoBlock w w' := by
  have := check_at w ao cap (l.map StD.of) (h.steps hs)
  rw [List.length_map, checkD_of] at this
  exact this
end Go.Proofs.Ytogeeeigfhmpmaa

/- Commands that are written are read back (layers 13, 16), in plain lists. -/
namespace Go.Proofs.Ytogeeeigfhmpmaa.Pk

theorem rdS_back {t : Stp} (h : okS t = true) (u : List Int) (b : Bool) : rdS ⟨encS t ++ u, b⟩ = (t, ⟨u, b⟩) := by
  unfold okS at h
  simp only [Bool.and_eq_true, decide_eq_true_eq] at h
  unfold rdS encS
  simp only [List.append_assoc]
  rw [up_back (by omega) (by omega), text_back (by omega) (by omega), up_back (by omega) (by omega)]
theorem rdSn_back : ∀ (l : List Stp) (_ : l.all okS = true) (u : List Int) (b : Bool), rdSn l.length ⟨l.flatMap encS ++ u, b⟩ = (l, ⟨u, b⟩)
  | [], _, u, b => rfl
  | t :: l, h, u, b => by
    rw [List.all_cons, Bool.and_eq_true] at h
    rw [List.flatMap_cons, List.append_assoc, List.length_cons]
    unfold rdSn
    simp only
    rw [rdS_back h.1]
    simp only
    rw [rdSn_back l h.2]
theorem rdSs_back {l : List Stp} (h : okSs l = true) (u : List Int) : rdSs ⟨encSs l ++ u, false⟩ = (l, ⟨u, false⟩) := by
  unfold okSs at h
  simp only [Bool.and_eq_true, decide_eq_true_eq] at h
  unfold rdSs encSs
  simp only [List.append_assoc]
  rw [up_back (by omega) (by omega)]
  simp only
  rw [rdSn_back l h.2]
  simp
/-- numbers of 64 bits -/
structure Cmd.Wf (c : Cmd) : Prop where
  session : c.session < 18446744073709551616
  seq : c.seq < 18446744073709551616
  saga : c.saga < 18446744073709551616
  now : c.now < 18446744073709551616
theorem may_kind {c : Cmd} (h : may c = true) : c.kind ≤ 5 := by
  unfold may at h
  split at h
  · omega
  · split at h
    · omega
    · split at h
      · omega
      · cases h
theorem truth_le (b : Bool) : truth b ≤ 1 := by unfold truth; split <;> omega
theorem truth_dec (b : Bool) : decide (truth b = 1) = b := by cases b <;> rfl
/-- what is written is read back -/
theorem rdC_enc {c : Cmd} (m k : Nat) (hm : 63 ≤ m) (hk : 8 ≤ k) (hm2 : m < 1000) (hk2 : k < 1000) (h : may c = true) (hw : c.Wf) : rdC m k (enc c) = (c, ⟨[], false⟩) := by
  have h5 := may_kind h
  obtain ⟨kind, session, seq, saga, steps, step, back, try_, ok, now⟩ := c
  obtain ⟨w1, w2, w3, w4⟩ := hw
  simp only at w1 w2 w3 w4 h5
  unfold rdC enc
  simp only [List.append_assoc]
  rw [up_back h5 (by omega)]
  simp only
  rw [num_back w1]
  simp only
  rw [num_back w2]
  simp only
  rw [num_back w3]
  simp only
  rw [num_back w4]
  simp only
  unfold may bare at h
  simp only at h
  by_cases h2 : kind = 2
  · subst h2
    simp at h
    obtain ⟨h1, ⟨⟨⟨r1, r2⟩, r3⟩, r4⟩⟩ := h
    subst r1 r2 r3 r4
    have := rdSs_back h1 []
    rw [List.append_nil] at this
    simp [this]
  · by_cases h4 : kind = 4
    · subst h4
      simp at h
      obtain ⟨⟨⟨⟨e1, e2⟩, e3⟩, e4⟩, e5⟩ := h
      simp only [e1]
      have t1 := truth_le back
      have t2 := truth_le ok
      have t3 := truth_dec back
      have t4 := truth_dec ok
      have u1 := up_back (x := step) (limit := m) (by omega) (by omega) (num (truth back) ++ (num try_ ++ num (truth ok))) false
      have u2 := up_back (x := truth back) (limit := 1) t1 (by omega) (num try_ ++ num (truth ok)) false
      have u3 := up_back (x := try_) (limit := k) (by omega) (by omega) (num (truth ok)) false
      have u4 := up_back (x := truth ok) (limit := 1) t2 (by omega) [] false
      rw [List.append_nil] at u4
      simp [u1, u2, u3, u4, t3, t4]
    · have hk1 : kind = 1 ∨ kind = 3 ∨ kind = 5 := by
        by_cases hh : kind = 1 ∨ kind = 3 ∨ kind = 5
        · exact hh
        · rw [if_neg hh, if_neg h2, if_neg h4] at h; cases h
      rw [if_pos hk1] at h
      simp at h
      obtain ⟨e0, ⟨⟨⟨r1, r2⟩, r3⟩, r4⟩⟩ := h
      subst e0 r1 r2 r3 r4
      simp [h2, h4]
theorem dec_enc {c : Cmd} (h : may c = true) (hw : c.Wf) : dec (enc c) = some c := by
  unfold dec
  rw [rdC_enc 64 9 (by omega) (by omega) (by omega) (by omega) h hw]
  simp [RD.done, h]
theorem rdC_wf {m k : Nat} {s : List Int} (hb : Byt s) : (rdC m k s).1.Wf := by
  have hb0 : Byt (RD.mk s false).s := hb
  have b1 := up_byt (m := 5) hb0
  have b2 := num_byt b1
  have b3 := num_byt b2
  have b4 := num_byt b3
  unfold rdC
  simp only
  split
  · exact ⟨numV_lt b1, numV_lt b2, numV_lt b3, numV_lt b4⟩
  · split
    · exact ⟨numV_lt b1, numV_lt b2, numV_lt b3, numV_lt b4⟩
    · exact ⟨numV_lt b1, numV_lt b2, numV_lt b3, numV_lt b4⟩
theorem dec_wf {s : List Int} {c : Cmd} (hb : Byt s) (h : dec s = some c) : c.Wf := by
  unfold dec at h
  simp only at h
  split at h
  · cases h; exact rdC_wf hb
  · cases h
end Go.Proofs.Ytogeeeigfhmpmaa.Pk

/- command.May: may a command be? -/
namespace Go.Proofs.Ytogeeeigfhmpmaa
open Go.RowKit
set_option maxRecDepth 100000

/-- a command's value: its steps lie at ao -/
def cmdV (c : Pk.Cmd) (ao : Option Addr) (cap : Nat) : Value := .agg #[.int .i64 c.kind, .int .u64 c.session, .int .u64 c.seq, .int .u64 c.saga, .slice ao c.steps.length cap, .int .i64 c.step, .bool c.back, .int .i64 c.try_, .bool c.ok, .int .u64 c.now]
theorem may_bare {k : Nat} (hk : k = 1 ∨ k = 3 ∨ k = 5) (a b c : Nat) (l : List Pk.Stp) (st : Nat) (bk : Bool) (tr : Nat) (ok : Bool) (now : Nat) : Pk.may ⟨k, a, b, c, l, st, bk, tr, ok, now⟩ = (decide (l.length = 0) && decide (st = 0) && !bk && decide (tr = 0) && !ok) := by
  unfold Pk.may Pk.bare
  rw [if_pos hk]
  cases l <;> simp [Bool.and_assoc]
theorem may_two (a b c : Nat) (l : List Pk.Stp) (st : Nat) (bk : Bool) (tr : Nat) (ok : Bool) (now : Nat) : Pk.may ⟨2, a, b, c, l, st, bk, tr, ok, now⟩ = (Pk.okSs l && decide (st = 0) && !bk && decide (tr = 0) && !ok) := by
  unfold Pk.may Pk.bare
  rw [if_neg (by simp), if_pos rfl]
  simp [Bool.and_assoc]
theorem may_four (a b c : Nat) (l : List Pk.Stp) (st : Nat) (bk : Bool) (tr : Nat) (ok : Bool) (now : Nat) : Pk.may ⟨4, a, b, c, l, st, bk, tr, ok, now⟩ = (decide (l.length = 0) && decide (st < 64) && decide (tr < 9) && decide (a = 0) && decide (b = 0)) := by
  unfold Pk.may
  rw [if_neg (by simp), if_neg (by simp), if_pos rfl]
  cases l <;> simp [Bool.and_assoc]
theorem may_else {k : Nat} (h1 : ¬ k = 1) (h2 : ¬ k = 2) (h3 : ¬ k = 3) (h4 : ¬ k = 4) (h5 : ¬ k = 5) (a b c : Nat) (l : List Pk.Stp) (st : Nat) (bk : Bool) (tr : Nat) (ok : Bool) (now : Nat) : Pk.may ⟨k, a, b, c, l, st, bk, tr, ok, now⟩ = false := by
  unfold Pk.may
  rw [if_neg (by simp only; omega), if_neg h2, if_neg h4]

set_option maxHeartbeats 1600000 in
theorem may1_at (w : World) (a b c : Nat) (l : List Pk.Stp) (ao : Option Addr) (cap : Nat) (st : Nat) (bk : Bool) (tr : Nat) (ok : Bool) (now : Nat) (hsm : Smalls l) (_hrow : RowIn stpK 38 w ao l) :
    Calls Try.prog 58 #[.agg #[.int .i64 1, .int .u64 a, .int .u64 b, .int .u64 c, .slice ao l.length cap, .int .i64 st, .bool bk, .int .i64 tr, .bool ok, .int .u64 now]] w fun e w' => e = .returned (.bool (Pk.may ⟨1, a, b, c, l, st, bk, tr, ok, now⟩)) ∧ Only NoBlock w w' := by
  have hA := (Only.refl NoBlock w).alloc (Obj.cells #[.int .i64 (1 : Nat), .int .u64 a, .int .u64 b, .int .u64 c, .slice ao l.length cap, .int .i64 st, .bool bk, .int .i64 tr, .bool ok, .int .u64 now] 31)
  have hn64 := hsm.1

  have hm := may_bare (k := 1) (by omega) a b c l st bk tr ok now
  have HM := Lib.hid hm
  clear hm
  clear _hrow hsm
  generalize Pk.may _ = m at HM ⊢
  generalize l.length = n at HM hA hn64 ⊢
  go_enter Try.func58, Try.ntmps58
  by_cases hl : n = 0
  · have dhl : ((n : Int) == 0) = true := by simp; omega
    by_cases hs : st = 0
    · have dhs : ((st : Int) == 0) = true := by simp; omega
      cases bk with
      | true =>
        have HB : RowKit.Hid (m = false) := Lib.hid ((HM.out).trans (by simp [hl, hs]))
        clear hl hs
        go_wp2_with fail
        go_ret
        exact ⟨by rw [HB.out]; rfl, hA⟩
      | false =>
        by_cases ht : tr = 0
        · have dht : ((tr : Int) == 0) = true := by simp; omega
          cases ok with
          | true =>
            have HB : RowKit.Hid (m = false) := Lib.hid ((HM.out).trans (by simp [hl, hs, ht]))
            clear hl hs ht
            go_wp2_with fail
            go_ret
            exact ⟨by rw [HB.out]; rfl, hA⟩
          | false =>
            have HB : RowKit.Hid (m = true) := Lib.hid ((HM.out).trans (by simp [hl, hs, ht]))
            clear hl hs ht
            go_wp2_with fail
            go_ret
            exact ⟨by rw [HB.out]; rfl, hA⟩
        · have dht : ((tr : Int) == 0) = false := by simp; omega
          have HB : RowKit.Hid (m = false) := Lib.hid ((HM.out).trans (by simp [hl, hs, ht]))
          clear hl hs ht
          go_wp2_with fail
          go_ret
          exact ⟨by rw [HB.out]; rfl, hA⟩
    · have dhs : ((st : Int) == 0) = false := by simp; omega
      have HB : RowKit.Hid (m = false) := Lib.hid ((HM.out).trans (by simp [hl, hs]))
      clear hl hs
      go_wp2_with fail
      go_ret
      exact ⟨by rw [HB.out]; rfl, hA⟩
  · have dhl : ((n : Int) == 0) = false := by simp; omega
    have HB : RowKit.Hid (m = false) := Lib.hid ((HM.out).trans (by simp [hl]))
    clear hl
    go_wp2_with fail
    go_ret
    exact ⟨by rw [HB.out]; rfl, hA⟩
set_option maxHeartbeats 1600000 in
theorem may3_at (w : World) (a b c : Nat) (l : List Pk.Stp) (ao : Option Addr) (cap : Nat) (st : Nat) (bk : Bool) (tr : Nat) (ok : Bool) (now : Nat) (hsm : Smalls l) (_hrow : RowIn stpK 38 w ao l) :
    Calls Try.prog 58 #[.agg #[.int .i64 3, .int .u64 a, .int .u64 b, .int .u64 c, .slice ao l.length cap, .int .i64 st, .bool bk, .int .i64 tr, .bool ok, .int .u64 now]] w fun e w' => e = .returned (.bool (Pk.may ⟨3, a, b, c, l, st, bk, tr, ok, now⟩)) ∧ Only NoBlock w w' := by
  have hA := (Only.refl NoBlock w).alloc (Obj.cells #[.int .i64 (3 : Nat), .int .u64 a, .int .u64 b, .int .u64 c, .slice ao l.length cap, .int .i64 st, .bool bk, .int .i64 tr, .bool ok, .int .u64 now] 31)
  have hn64 := hsm.1

  have hm := may_bare (k := 3) (by omega) a b c l st bk tr ok now
  have HM := Lib.hid hm
  clear hm
  clear _hrow hsm
  generalize Pk.may _ = m at HM ⊢
  generalize l.length = n at HM hA hn64 ⊢
  go_enter Try.func58, Try.ntmps58
  by_cases hl : n = 0
  · have dhl : ((n : Int) == 0) = true := by simp; omega
    by_cases hs : st = 0
    · have dhs : ((st : Int) == 0) = true := by simp; omega
      cases bk with
      | true =>
        have HB : RowKit.Hid (m = false) := Lib.hid ((HM.out).trans (by simp [hl, hs]))
        clear hl hs
        go_wp2_with fail
        go_ret
        exact ⟨by rw [HB.out]; rfl, hA⟩
      | false =>
        by_cases ht : tr = 0
        · have dht : ((tr : Int) == 0) = true := by simp; omega
          cases ok with
          | true =>
            have HB : RowKit.Hid (m = false) := Lib.hid ((HM.out).trans (by simp [hl, hs, ht]))
            clear hl hs ht
            go_wp2_with fail
            go_ret
            exact ⟨by rw [HB.out]; rfl, hA⟩
          | false =>
            have HB : RowKit.Hid (m = true) := Lib.hid ((HM.out).trans (by simp [hl, hs, ht]))
            clear hl hs ht
            go_wp2_with fail
            go_ret
            exact ⟨by rw [HB.out]; rfl, hA⟩
        · have dht : ((tr : Int) == 0) = false := by simp; omega
          have HB : RowKit.Hid (m = false) := Lib.hid ((HM.out).trans (by simp [hl, hs, ht]))
          clear hl hs ht
          go_wp2_with fail
          go_ret
          exact ⟨by rw [HB.out]; rfl, hA⟩
    · have dhs : ((st : Int) == 0) = false := by simp; omega
      have HB : RowKit.Hid (m = false) := Lib.hid ((HM.out).trans (by simp [hl, hs]))
      clear hl hs
      go_wp2_with fail
      go_ret
      exact ⟨by rw [HB.out]; rfl, hA⟩
  · have dhl : ((n : Int) == 0) = false := by simp; omega
    have HB : RowKit.Hid (m = false) := Lib.hid ((HM.out).trans (by simp [hl]))
    clear hl
    go_wp2_with fail
    go_ret
    exact ⟨by rw [HB.out]; rfl, hA⟩
set_option maxHeartbeats 1600000 in
theorem may5_at (w : World) (a b c : Nat) (l : List Pk.Stp) (ao : Option Addr) (cap : Nat) (st : Nat) (bk : Bool) (tr : Nat) (ok : Bool) (now : Nat) (hsm : Smalls l) (_hrow : RowIn stpK 38 w ao l) :
    Calls Try.prog 58 #[.agg #[.int .i64 5, .int .u64 a, .int .u64 b, .int .u64 c, .slice ao l.length cap, .int .i64 st, .bool bk, .int .i64 tr, .bool ok, .int .u64 now]] w fun e w' => e = .returned (.bool (Pk.may ⟨5, a, b, c, l, st, bk, tr, ok, now⟩)) ∧ Only NoBlock w w' := by
  have hA := (Only.refl NoBlock w).alloc (Obj.cells #[.int .i64 (5 : Nat), .int .u64 a, .int .u64 b, .int .u64 c, .slice ao l.length cap, .int .i64 st, .bool bk, .int .i64 tr, .bool ok, .int .u64 now] 31)
  have hn64 := hsm.1

  have hm := may_bare (k := 5) (by omega) a b c l st bk tr ok now
  have HM := Lib.hid hm
  clear hm
  clear _hrow hsm
  generalize Pk.may _ = m at HM ⊢
  generalize l.length = n at HM hA hn64 ⊢
  go_enter Try.func58, Try.ntmps58
  by_cases hl : n = 0
  · have dhl : ((n : Int) == 0) = true := by simp; omega
    by_cases hs : st = 0
    · have dhs : ((st : Int) == 0) = true := by simp; omega
      cases bk with
      | true =>
        have HB : RowKit.Hid (m = false) := Lib.hid ((HM.out).trans (by simp [hl, hs]))
        clear hl hs
        go_wp2_with fail
        go_ret
        exact ⟨by rw [HB.out]; rfl, hA⟩
      | false =>
        by_cases ht : tr = 0
        · have dht : ((tr : Int) == 0) = true := by simp; omega
          cases ok with
          | true =>
            have HB : RowKit.Hid (m = false) := Lib.hid ((HM.out).trans (by simp [hl, hs, ht]))
            clear hl hs ht
            go_wp2_with fail
            go_ret
            exact ⟨by rw [HB.out]; rfl, hA⟩
          | false =>
            have HB : RowKit.Hid (m = true) := Lib.hid ((HM.out).trans (by simp [hl, hs, ht]))
            clear hl hs ht
            go_wp2_with fail
            go_ret
            exact ⟨by rw [HB.out]; rfl, hA⟩
        · have dht : ((tr : Int) == 0) = false := by simp; omega
          have HB : RowKit.Hid (m = false) := Lib.hid ((HM.out).trans (by simp [hl, hs, ht]))
          clear hl hs ht
          go_wp2_with fail
          go_ret
          exact ⟨by rw [HB.out]; rfl, hA⟩
    · have dhs : ((st : Int) == 0) = false := by simp; omega
      have HB : RowKit.Hid (m = false) := Lib.hid ((HM.out).trans (by simp [hl, hs]))
      clear hl hs
      go_wp2_with fail
      go_ret
      exact ⟨by rw [HB.out]; rfl, hA⟩
  · have dhl : ((n : Int) == 0) = false := by simp; omega
    have HB : RowKit.Hid (m = false) := Lib.hid ((HM.out).trans (by simp [hl]))
    clear hl
    go_wp2_with fail
    go_ret
    exact ⟨by rw [HB.out]; rfl, hA⟩
set_option maxHeartbeats 1600000 in
theorem may2_at (w : World) (a b c : Nat) (l : List Pk.Stp) (ao : Option Addr) (cap : Nat) (st : Nat) (bk : Bool) (tr : Nat) (ok : Bool) (now : Nat) (hsm : Smalls l) (hrow : RowIn stpK 38 w ao l) :
    Calls Try.prog 58 #[.agg #[.int .i64 2, .int .u64 a, .int .u64 b, .int .u64 c, .slice ao l.length cap, .int .i64 st, .bool bk, .int .i64 tr, .bool ok, .int .u64 now]] w fun e w' => e = .returned (.bool (Pk.may ⟨2, a, b, c, l, st, bk, tr, ok, now⟩)) ∧ Only NoBlock w w' := by
  have hA := (Only.refl NoBlock w).alloc (Obj.cells #[.int .i64 (2 : Nat), .int .u64 a, .int .u64 b, .int .u64 c, .slice ao l.length cap, .int .i64 st, .bool bk, .int .i64 tr, .bool ok, .int .u64 now] 31)
  have hn64 := hsm.1

  have hm := may_two a b c l st bk tr ok now
  have HM := Lib.hid hm
  clear hm
  generalize Pk.may _ = m at HM ⊢
  have hck := checkS_at _ ao cap l (hrow.keepsN hA) hsm
  go_enter Try.func58, Try.ntmps58
  go_wp2_with fail
  refine hck.mono ?_
  rintro e w2 ⟨rfl, hO2⟩
  have hO := hA.trans hO2
  have hBx := (Blk.made w #[.int .i64 (2 : Nat), .int .u64 a, .int .u64 b, .int .u64 c, .slice ao l.length cap, .int .i64 st, .bool bk, .int .i64 tr, .bool ok, .int .u64 now] 31).keeps hO2 (fun h => h)
  have c5 := hBx.cell 5
  have c6 := hBx.cell 6
  have c7 := hBx.cell 7
  have c8 := hBx.cell 8
  simp only [List.getElem?_toArray, List.getElem?_cons_succ, List.getElem?_cons_zero] at c5 c6 c7 c8
  clear hrow hsm hck hO2 hA hBx
  cases hok : Pk.okSs l with
  | false =>
    have HB : RowKit.Hid (m = false) := Lib.hid (HM.out.trans (by simp [hok]))
    clear hok
    go_wp2_with fail
    go_ret
    exact ⟨by rw [HB.out]; rfl, hO⟩
  | true =>
    by_cases hs : st = 0
    · have dhs : ((st : Int) == 0) = true := by simp; omega
      cases bk with
      | true =>
        have HB : RowKit.Hid (m = false) := Lib.hid ((HM.out).trans (by simp [hok, hs]))
        clear hok hs
        go_wp2_with fail
        go_ret
        exact ⟨by rw [HB.out]; rfl, hO⟩
      | false =>
        by_cases ht : tr = 0
        · have dht : ((tr : Int) == 0) = true := by simp; omega
          cases ok with
          | true =>
            have HB : RowKit.Hid (m = false) := Lib.hid ((HM.out).trans (by simp [hok, hs, ht]))
            clear hok hs ht
            go_wp2_with fail
            go_ret
            exact ⟨by rw [HB.out]; rfl, hO⟩
          | false =>
            have HB : RowKit.Hid (m = true) := Lib.hid ((HM.out).trans (by simp [hok, hs, ht]))
            clear hok hs ht
            go_wp2_with fail
            go_ret
            exact ⟨by rw [HB.out]; rfl, hO⟩
        · have dht : ((tr : Int) == 0) = false := by simp; omega
          have HB : RowKit.Hid (m = false) := Lib.hid ((HM.out).trans (by simp [hok, hs, ht]))
          clear hok hs ht
          go_wp2_with fail
          go_ret
          exact ⟨by rw [HB.out]; rfl, hO⟩
    · have dhs : ((st : Int) == 0) = false := by simp; omega
      have HB : RowKit.Hid (m = false) := Lib.hid ((HM.out).trans (by simp [hok, hs]))
      clear hok hs
      go_wp2_with fail
      go_ret
      exact ⟨by rw [HB.out]; rfl, hO⟩
set_option maxHeartbeats 1600000 in
theorem may4_at (w : World) (a b c : Nat) (l : List Pk.Stp) (ao : Option Addr) (cap : Nat) (st : Nat) (bk : Bool) (tr : Nat) (ok : Bool) (now : Nat) (hsm : Smalls l) (_hrow : RowIn stpK 38 w ao l) :
    Calls Try.prog 58 #[.agg #[.int .i64 4, .int .u64 a, .int .u64 b, .int .u64 c, .slice ao l.length cap, .int .i64 st, .bool bk, .int .i64 tr, .bool ok, .int .u64 now]] w fun e w' => e = .returned (.bool (Pk.may ⟨4, a, b, c, l, st, bk, tr, ok, now⟩)) ∧ Only NoBlock w w' := by
  have hA := (Only.refl NoBlock w).alloc (Obj.cells #[.int .i64 (4 : Nat), .int .u64 a, .int .u64 b, .int .u64 c, .slice ao l.length cap, .int .i64 st, .bool bk, .int .i64 tr, .bool ok, .int .u64 now] 31)
  have hn64 := hsm.1

  have hm := may_four a b c l st bk tr ok now
  have HM := Lib.hid hm
  clear hm
  clear _hrow hsm
  generalize Pk.may _ = m at HM ⊢
  generalize l.length = n at HM hA hn64 ⊢
  go_enter Try.func58, Try.ntmps58
  by_cases hl : n = 0
  · have dhl : ((n : Int) == 0) = true := by simp; omega
    by_cases hs : st < 64
    · have dhs : decide ((st : Int) < 64) = true := by simp; omega
      by_cases ht : tr < 9
      · have dht : decide ((tr : Int) < 9) = true := by simp; omega
        by_cases ha : a = 0
        · have dha : ((a : Int) == 0) = true := by simp; omega
          by_cases hb : b = 0
          · have dhb : ((b : Int) == 0) = true := by simp; omega
            have HB : RowKit.Hid (m = true) := Lib.hid ((HM.out).trans (by simp [hl, hs, ht, ha, hb]))
            clear hl hs ht ha hb
            go_wp2_with fail
            go_ret
            exact ⟨by rw [HB.out]; rfl, hA⟩
          · have dhb : ((b : Int) == 0) = false := by simp; omega
            have HB : RowKit.Hid (m = false) := Lib.hid ((HM.out).trans (by simp [hl, hs, ht, ha, hb]))
            clear hl hs ht ha hb
            go_wp2_with fail
            go_ret
            exact ⟨by rw [HB.out]; rfl, hA⟩
        · have dha : ((a : Int) == 0) = false := by simp; omega
          have HB : RowKit.Hid (m = false) := Lib.hid ((HM.out).trans (by simp [hl, hs, ht, ha]))
          clear hl hs ht ha
          go_wp2_with fail
          go_ret
          exact ⟨by rw [HB.out]; rfl, hA⟩
      · have dht : decide ((tr : Int) < 9) = false := by simp; omega
        have HB : RowKit.Hid (m = false) := Lib.hid ((HM.out).trans (by simp [hl, hs, ht]))
        clear hl hs ht
        go_wp2_with fail
        go_ret
        exact ⟨by rw [HB.out]; rfl, hA⟩
    · have dhs : decide ((st : Int) < 64) = false := by simp; omega
      have HB : RowKit.Hid (m = false) := Lib.hid ((HM.out).trans (by simp [hl, hs]))
      clear hl hs
      go_wp2_with fail
      go_ret
      exact ⟨by rw [HB.out]; rfl, hA⟩
  · have dhl : ((n : Int) == 0) = false := by simp; omega
    have HB : RowKit.Hid (m = false) := Lib.hid ((HM.out).trans (by simp [hl]))
    clear hl
    go_wp2_with fail
    go_ret
    exact ⟨by rw [HB.out]; rfl, hA⟩
set_option maxHeartbeats 1600000 in
theorem mayE_at (w : World) (k : Nat) (h1 : ¬ k = 1) (h2 : ¬ k = 2) (h3 : ¬ k = 3) (h4 : ¬ k = 4) (h5 : ¬ k = 5) (a b c : Nat) (l : List Pk.Stp) (ao : Option Addr) (cap : Nat) (st : Nat) (bk : Bool) (tr : Nat) (ok : Bool) (now : Nat) (hsm : Smalls l) (_hrow : RowIn stpK 38 w ao l) :
    Calls Try.prog 58 #[.agg #[.int .i64 k, .int .u64 a, .int .u64 b, .int .u64 c, .slice ao l.length cap, .int .i64 st, .bool bk, .int .i64 tr, .bool ok, .int .u64 now]] w fun e w' => e = .returned (.bool (Pk.may ⟨k, a, b, c, l, st, bk, tr, ok, now⟩)) ∧ Only NoBlock w w' := by
  have hA := (Only.refl NoBlock w).alloc (Obj.cells #[.int .i64 k, .int .u64 a, .int .u64 b, .int .u64 c, .slice ao l.length cap, .int .i64 st, .bool bk, .int .i64 tr, .bool ok, .int .u64 now] 31)
  have hn64 := hsm.1
  have HB : RowKit.Hid (Pk.may _ = false) := Lib.hid (may_else h1 h2 h3 h4 h5 a b c l st bk tr ok now)
  have d1 : ((k : Int) == 1) = false := by simp; omega
  have d2 : ((k : Int) == 2) = false := by simp; omega
  have d3 : ((k : Int) == 3) = false := by simp; omega
  have d4 : ((k : Int) == 4) = false := by simp; omega
  have d5 : ((k : Int) == 5) = false := by simp; omega
  clear h1 h2 h3 h4 h5 _hrow hsm
  go_enter Try.func58, Try.ntmps58
  go_wp2_with fail
  go_ret
  exact ⟨by rw [HB.out]; rfl, hA⟩
theorem maycmd_at (w : World) (c : Pk.Cmd) (ao : Option Addr) (cap : Nat) (hsm : Smalls c.steps) (hrow : RowIn stpK 38 w ao c.steps) :
    Calls Try.prog 58 #[cmdV c ao cap] w fun e w' => e = .returned (.bool (Pk.may c)) ∧ Only NoBlock w w' := by
  obtain ⟨k, a, b, s, l, st, bk, tr, ok, now⟩ := c
  by_cases h1 : k = 1
  · subst h1; exact may1_at w a b s l ao cap st bk tr ok now hsm hrow
  by_cases h2 : k = 2
  · subst h2; exact may2_at w a b s l ao cap st bk tr ok now hsm hrow
  by_cases h3 : k = 3
  · subst h3; exact may3_at w a b s l ao cap st bk tr ok now hsm hrow
  by_cases h4 : k = 4
  · subst h4; exact may4_at w a b s l ao cap st bk tr ok now hsm hrow
  by_cases h5 : k = 5
  · subst h5; exact may5_at w a b s l ao cap st bk tr ok now hsm hrow
  exact mayE_at w k h1 h2 h3 h4 h5 a b s l ao cap st bk tr ok now hsm hrow
end Go.Proofs.Ytogeeeigfhmpmaa

/- Rows of texts: of a call's own, or read. -/
namespace Go.Proofs.Ytogeeeigfhmpmaa
open Go.RowKit

namespace St
theorem u_strings : Try.prog.underlying 41 = some (.slice 9) := by kernel_rfl
theorem info : (Try.prog.info? 9).map (fun i => (i.zero, i.size, i.bytes)) = some (some (.string ByteArray.empty), 1, 16) := by kernel_rfl
end St

/-- a row of texts of the call's own -/
def Strs (w : World) (base : Nat) (v : Value) (l : List ByteArray) : Prop := w.ownsRow base 9 1 v l.length (l.map Value.string)

/-- a row of texts that is read -/
structure StrsIn (w : World) (ao : Option Addr) (l : List ByteArray) : Prop where
  len : l.length ≤ maxLen
  cell : ∀ i, i < l.length → ∃ b off, ao = some ⟨b, off, none⟩ ∧ w.cell? ⟨b, off + i, none⟩ = some (.string (l.getD i ByteArray.empty))

section
variable {w w' : World} {base : Nat} {v : Value} {l : List ByteArray}
theorem StrsIn.keeps {S : Nat → Prop} {ao : Option Addr} (h : StrsIn w ao l) (ho : Only S w w') (hs : ∀ a, ao = some a → ¬ S a.block) : StrsIn w' ao l :=
  ⟨h.len, fun i hi => by
    obtain ⟨b, off, e, hc⟩ := h.cell i hi
    refine ⟨b, off, e, ?_⟩
    have hlt : b < w.heap.size := World.block_lt_of_cell? w _ hc
    have hb := ho.block b hlt (hs ⟨b, off, none⟩ e)
    rw [← hc]
    simp [World.cell?, hb]⟩
theorem Strs.keeps {S : Nat → Prop} (h : Strs w base v l) (ho : Only S w w') (hs : ∀ k, v.ownBlock = some k → ¬ S k) : Strs w' base v l := row_keeps h ho hs
theorem Strs.lower {b' : Nat} (h : Strs w base v l) (hb : b' ≤ base) : Strs w b' v l := by
  obtain ⟨h1, h2⟩ := h
  refine ⟨h1, ?_⟩
  rcases h2 with h2 | ⟨g, cap, cur, rfl, hg, r⟩
  · exact .inl h2
  · exact .inr ⟨g, cap, cur, rfl, Nat.le_trans hb hg, r⟩
theorem Strs.keeps2 {S : Nat → Prop} (h : Strs w base v l) (ho : Only S w w') (hs : ∀ k, S k → k < base) : Strs w' base v l :=
  h.keeps ho (fun k hk hS => by have := (World.ownsRow.lt h k hk).1; have := hs k hS; omega)
theorem Strs.nil (w : World) (base : Nat) : Strs w base (.slice none 0 0) [] := World.ownsRow_nil _ _ _ _
theorem Strs.shape (h : Strs w base v l) : ∃ ao cap, v = .slice ao l.length cap := by
  rcases h.2 with ⟨h1, h0⟩ | ⟨g, cap, cur, rfl, hb, _, hn, hm, _⟩
  · exact ⟨none, 0, by rw [h1, h0]⟩
  · exact ⟨_, cap, rfl⟩
theorem Strs.read {ao : Option Addr} {cap : Nat} (h : Strs w base (.slice ao l.length cap) l) : StrsIn w ao l ∧ l.length ≤ cap ∧ cap ≤ maxLen := by
  rcases h.2 with ⟨h1, h0⟩ | ⟨g, cap', cur, h1, hb, hg, hn, hm, _, ht⟩
  · simp only [Value.slice.injEq] at h1
    exact ⟨⟨by unfold maxLen; omega, fun i hi => by omega⟩, by omega, by rw [h1.2.2]; unfold maxLen; omega⟩
  · simp only [Value.slice.injEq] at h1
    obtain ⟨rfl, _, rfl⟩ := h1
    refine ⟨⟨by omega, fun i hi => ⟨g, 0, rfl, ?_⟩⟩, hn, hm⟩
    rw [Nat.zero_add]
    have := World.ownsRow.cellAt h i (by simpa using hi)
    rw [this, List.getElem?_map, List.getElem?_eq_getElem hi]
    simp [List.getD, hi]
theorem Strs.isIn (h : Strs w base v l) : ∃ ao cap, v = .slice ao l.length cap ∧ StrsIn w ao l ∧ l.length ≤ cap ∧ cap ≤ maxLen := by
  obtain ⟨ao, cap, rfl⟩ := h.shape
  exact ⟨ao, cap, rfl, h.read⟩
theorem StrsIn.at {ao : Option Addr} (h : StrsIn w ao l) {k : Nat} (hk : k < l.length) : ∃ b off, ao = some ⟨b, off, none⟩ ∧ w.cell? ⟨b, off + k, none⟩ = some (.string (l.getD k ByteArray.empty)) := h.cell k hk
theorem StrsIn.take {ao : Option Addr} (h : StrsIn w ao l) (n : Nat) : StrsIn w ao (l.take n) :=
  ⟨by have := h.len; rw [List.length_take]; omega, fun i hi => by
    rw [List.length_take] at hi
    obtain ⟨b, off, e, hc⟩ := h.cell i (by omega)
    refine ⟨b, off, e, ?_⟩
    rw [hc, List.getD_eq_getElem?_getD, List.getD_eq_getElem?_getD, List.getElem?_take, if_pos (by omega)]⟩
theorem StrsIn.none (w : World) : StrsIn w none [] := ⟨by unfold maxLen; decide, fun i hi => by simp at hi⟩
theorem cell_str (w : World) (s : ByteArray) (t : TypeId) (n : Nat) (hn : n = w.heap.size) : (w.alloc (.cells #[.string s] t)).cell? ⟨n, 0, none⟩ = some (.string s) := by
  subst hn
  rw [(Blk.made w _ _).cell]; rfl
end

section
variable {ops : Array Oper} {rest : List Oper} {o : Oper} {a : Act} {Q : Exit → Act → World → Prop}
theorem wpList_append_str (w : World) (hgd : o.guard = none) (s x : Operand) (ho : o.op = .call { callee := .builtin .append, args := #[s, x], argTypes := #[41, 41] })
    (base : Nat) (v : Value) (l : List ByteArray) (c : ByteArray) (ad : Addr) (n : Nat) (hs : a.eval s = v) (hown : Strs w base v l) (hx : a.eval x = .slice (some ad) 1 n) (hc : w.cell? ad = some (.string c))
    (hlen : l.length + 1 ≤ 8796093022208) (hbase : base ≤ w.heap.size)
    (h : ∀ v' w', Strs w' base v' (l ++ [c]) → w.grownBy w' v.ownBlock → wpList Try.prog ops Q rest (a.put o.dst v') w') : wpList Try.prog ops Q (o :: rest) a w := by
  obtain ⟨i, hi, hz, hsz, hby⟩ := info_parts St.info
  refine wpList_append_own w hgd s x _ ho base 9 i (.string ByteArray.empty) 1 16 St.u_strings hi hz hsz hby rfl (by decide) v l.length _ hs hown ad 1 n [.string c] hx rfl ?_ ?_ ?_ ?_ hbase ?_
  · intro j u hj
    cases j with
    | zero =>
      cases hj
      have : ad.add 0 = ad := by unfold Addr.add; obtain ⟨b, off, sp⟩ := ad; cases sp <;> rfl
      rw [this]; exact hc
    | succ j => cases hj
  · simp [Value.oneCell']
  · unfold maxLen; omega
  · omega
  · intro v' w' h1 h2 _
    refine h v' w' ?_ h2
    unfold Strs
    simpa using h1
/-- 'append' of a row of texts -/
theorem wpList_append_strs (w : World) (hgd : o.guard = none) (s x : Operand) (ho : o.op = .call { callee := .builtin .append, args := #[s, x], argTypes := #[41, 41] })
    (base : Nat) (v : Value) (l m : List ByteArray) (ad : Addr) (k n : Nat) (hs : a.eval s = v) (hown : Strs w base v l) (hx : a.eval x = .slice (some ad) k n) (hk : k = m.length) (hm : StrsIn w (some ad) m)
    (hlen : l.length + m.length ≤ 8796093022208) (hbase : base ≤ w.heap.size)
    (h : ∀ v' w', Strs w' base v' (l ++ m) → w.grownBy w' v.ownBlock → wpList Try.prog ops Q rest (a.put o.dst v') w') : wpList Try.prog ops Q (o :: rest) a w := by
  subst hk
  obtain ⟨i, hi, hz, hsz, hby⟩ := info_parts St.info
  refine wpList_append_own w hgd s x _ ho base 9 i (.string ByteArray.empty) 1 16 St.u_strings hi hz hsz hby rfl (by decide) v l.length _ hs hown ad m.length n (m.map Value.string) hx (by simp) ?_ ?_ ?_ ?_ hbase ?_
  · intro j u hj
    have hj' : j < m.length := by have := (List.getElem?_eq_some_iff.1 hj).1; simpa using this
    obtain ⟨b, off, e, hc⟩ := hm.cell j hj'
    cases e
    rw [List.getElem?_map, List.getElem?_eq_getElem hj'] at hj
    cases hj
    rw [Addr.add_lit, hc, List.getD_eq_getElem?_getD, List.getElem?_eq_getElem hj']
    rfl
  · intro u hu
    obtain ⟨x, _, rfl⟩ := List.mem_map.1 hu
    rfl
  · unfold maxLen; omega
  · omega
  · intro v' w' h1 h2 _
    refine h v' w' ?_ h2
    unfold Strs
    simpa using h1
end

end Go.Proofs.Ytogeeeigfhmpmaa
