/- What the statements of this seat lean on, part A: what the program's and the document's functions compute, in plain data. -/
import Derived.WalkKit
import Derived.WalkSpells
import Derived.WalkLawsBesides
import Derived.Deep.QuietTactic
import Derived.BigQuiet
import Derived.RegionTactic
import Derived.BigRegion
import Derived.ChangeAlike
import Derived.StillTailTactics
import Derived.Deep.RegionLaw
import Derived.LoopTactic
import Derived.Outline
import Derived.Deep.DeepFit
import Derived.Deep.DeepCutAuto
import Derived.Lib.Hide
import Derived.OwnWalk
import Derived.Laws.AppendOwn
import Derived.Laws.OwnMore
import Derived.OneCell
import Derived.Maps.OwnSet
import Derived.Maps.RangeWalk
import Derived.Test.YtekmjhenhgmpgaaProg
import Derived.Deep.RegionHeld3
import Derived.Laws.BitsLemmas
import Derived.IntWalk
import Derived.Laws.MakeOwn
import Derived.Lib.ConvBytes
import Derived.Laws.IdiomStrings
import Derived.WalkMore
import Derived.Deep.LoopGhost
import Derived.Deep.CutBlock

/- Plain words that all texts of this seat share: which blocks of the memory a call may have changed; a block of cells known whole. -/
namespace Go.Proofs.Ytekmjhenhgmpgaa
open Go.RowKit Go.Maps

/-- Of the blocks that w has only those of S may have changed; the streams are as they were. -/
structure Only (S : Nat → Prop) (w w' : World) : Prop where
  os : w'.os = w.os
  tape : w'.tape = w.tape
  output : w'.output = w.output
  size : w.heap.size ≤ w'.heap.size
  block : ∀ k, k < w.heap.size → ¬ S k → w'.heap[k]? = w.heap[k]?

def NoBlock : Nat → Prop := fun _ => False

theorem Only.refl (S : Nat → Prop) (w : World) : Only S w w := ⟨rfl, rfl, rfl, Nat.le_refl _, fun _ _ _ => rfl⟩
theorem Only.trans {S : Nat → Prop} {a b c : World} (h : Only S a b) (k : Only S b c) : Only S a c :=
  ⟨k.os.trans h.os, k.tape.trans h.tape, k.output.trans h.output, Nat.le_trans h.size k.size, fun i hi hs => (k.block i (Nat.lt_of_lt_of_le hi h.size) hs).trans (h.block i hi hs)⟩
theorem Only.mono {S T : Nat → Prop} {a b : World} (h : Only S a b) (hst : ∀ k, S k → T k) : Only T a b :=
  ⟨h.os, h.tape, h.output, h.size, fun i hi hs => h.block i hi (fun hh => hs (hst i hh))⟩
theorem Only.of_no {S : Nat → Prop} {a b : World} (h : Only NoBlock a b) : Only S a b := h.mono (fun _ h => h.elim)
/-- what T says of blocks that are newer than a plays no part -/
theorem Only.andThen {S T : Nat → Prop} {a b c : World} (h : Only S a b) (k : Only T b c) (hst : ∀ i, i < a.heap.size → T i → S i) : Only S a c :=
  ⟨k.os.trans h.os, k.tape.trans h.tape, k.output.trans h.output, Nat.le_trans h.size k.size,
   fun i hi hs => (k.block i (Nat.lt_of_lt_of_le hi h.size) (fun ht => hs (hst i hi ht))).trans (h.block i hi hs)⟩
theorem Only.drew {S : Nat → Prop} {a b : World} (h : Only S a b) : Only S a b.drew := ⟨h.os, h.tape, h.output, h.size, h.block⟩
theorem Only.drewN {S : Nat → Prop} {a b : World} (h : Only S a b) (n : Nat) : Only S a (b.drewN n) := ⟨h.os, h.tape, h.output, h.size, h.block⟩
theorem Only.alloc {S : Nat → Prop} {a b : World} (h : Only S a b) (o : Obj) : Only S a (b.alloc o) :=
  h.andThen (T := NoBlock) ⟨rfl, rfl, rfl, by simp, fun k hk _ => Below.heap_alloc _ _ _ hk⟩ (fun _ _ h => h.elim)
theorem Only.setCell {S : Nat → Prop} {a b : World} (h : Only S a b) {p : Addr} (hp : p.block < a.heap.size → S p.block) (u : Value) : Only S a (b.setCell p u) :=
  h.andThen (T := fun k => k = p.block) ⟨rfl, rfl, rfl, by simp [World.setCell], fun k _ hk => Below.heap_setCell _ _ _ _ hk⟩ (fun i hi e => by subst e; exact hp hi)
theorem Only.grown {S : Nat → Prop} {a b c : World} {row : Option Nat} (h : Only S a b) (hg : b.grownBy c row) (hr : ∀ k, row = some k → k < a.heap.size → S k) : Only S a c :=
  h.andThen (T := fun k => row = some k) ⟨hg.os, hg.tape, hg.output, hg.size, fun k hk hs => hg.block k hk (fun e => hs e.symm)⟩ (fun i hi e => hr i e hi)
theorem Only.of_grown {b c : World} {row : Option Nat} (hg : b.grownBy c row) : Only (fun k => row = some k) b c := ⟨hg.os, hg.tape, hg.output, hg.size, fun k hk hs => hg.block k hk (fun e => hs e.symm)⟩
theorem Only.grownBy {b c : World} (h : Only NoBlock b c) : b.grownBy c none := ⟨h.os, h.tape, h.output, h.size, fun k hk _ => h.block k hk (fun h => h)⟩
theorem Only.keeps {S : Nat → Prop} {a b : World} (h : Only S a b) {k : Nat} {o : Obj} (hs : ¬ S k) (hk : a.heap[k]? = some o) : b.heap[k]? = some o :=
  (h.block k (lt_of_block hk) hs).trans hk
theorem Only.below {S : Nat → Prop} {N : Nat} {a b : World} (h : Only S a b) (hN : N ≤ a.heap.size) (hs : ∀ k, S k → N ≤ k) : Below N a b :=
  ⟨h.os, h.tape, h.output, h.size, fun k hk => h.block k (Nat.lt_of_lt_of_le hk hN) (fun hh => by have := hs k hh; omega)⟩
theorem Only.of_below {w w' : World} (h : Below w.heap.size w w') : Only NoBlock w w' := ⟨h.os, h.tape, h.output, h.size, fun k hk _ => h.block k hk⟩

/-- block b is these cells of type t, and may be written -/
def Blk (w : World) (b : Nat) (cs : Array Value) (t : TypeId) : Prop := w.heap[b]? = some (.cells cs t (0, 0))

theorem Blk.cell {w : World} {b : Nat} {cs : Array Value} {t : TypeId} (h : Blk w b cs t) (i : Nat) : w.cell? ⟨b, i, none⟩ = cs[i]? := by
  unfold Blk at h
  simp [World.cell?, h]
theorem Blk.free {w : World} {b : Nat} {cs : Array Value} {t : TypeId} (h : Blk w b cs t) (i : Nat) : w.frozen? ⟨b, i, none⟩ = false := by
  unfold Blk at h
  simp [World.frozen?, h]
theorem Blk.lt {w : World} {b : Nat} {cs : Array Value} {t : TypeId} (h : Blk w b cs t) : b < w.heap.size := lt_of_block h
theorem Blk.keeps {S : Nat → Prop} {w w' : World} {b : Nat} {cs : Array Value} {t : TypeId} (h : Blk w b cs t) (ho : Only S w w') (hs : ¬ S b) : Blk w' b cs t := ho.keeps hs h
theorem Blk.alloc {w : World} {b : Nat} {cs : Array Value} {t : TypeId} (h : Blk w b cs t) (o : Obj) : Blk (w.alloc o) b cs t := (Below.heap_alloc w o b h.lt).trans h
theorem Blk.made (w : World) (cs : Array Value) (t : TypeId) : Blk (w.alloc (.cells cs t)) w.heap.size cs t := heap_alloc_new w _
theorem Blk.setCell {w : World} {b : Nat} {cs : Array Value} {t : TypeId} (h : Blk w b cs t) (i : Nat) (v : Value) : Blk (w.setCell ⟨b, i, none⟩ v) b (cs.setIfInBounds i v) t := by
  have hlt := h.lt
  unfold Blk at h
  have h' : w.heap[b] = .cells cs t (0, 0) := by simpa [Array.getElem?_eq_getElem hlt] using h
  show (w.heap.modify b _)[b]? = _
  rw [Array.getElem?_eq_getElem (by simpa using hlt), Array.getElem_modify_self, h']
  rfl
theorem Blk.setCell_other {w : World} {b : Nat} {cs : Array Value} {t : TypeId} (h : Blk w b cs t) {p : Addr} (hp : b ≠ p.block) (v : Value) : Blk (w.setCell p v) b cs t :=
  (Below.heap_setCell w p v b hp).trans h
theorem Blk.drew {w : World} {b : Nat} {cs : Array Value} {t : TypeId} (h : Blk w b cs t) : Blk w.drew b cs t := h
theorem Blk.drewN {w : World} {b : Nat} {cs : Array Value} {t : TypeId} (h : Blk w b cs t) (n : Nat) : Blk (w.drewN n) b cs t := h

theorem row_keeps {S : Nat → Prop} {w w' : World} {base n size : Nat} {e : TypeId} {v : Value} {xs : List Value} (h : w.ownsRow base e size v n xs) (ho : Only S w w') (hs : ∀ k, v.ownBlock = some k → ¬ S k) : w'.ownsRow base e size v n xs := by
  obtain ⟨h1, h2⟩ := h
  refine ⟨h1, ?_⟩
  rcases h2 with h2 | ⟨g, cap, cur, rfl, hb, hg, r⟩
  · exact .inl h2
  · exact .inr ⟨g, cap, cur, rfl, hb, ho.keeps (hs g rfl) hg, r⟩
theorem cell_one_at (w : World) (v : Value) (t : TypeId) (n : Nat) (hn : n = w.heap.size) : ∀ j u, [v][j]? = some u → (w.alloc (.cells #[v] t)).cell? ((⟨n, 0, none⟩ : Addr).add j) = some u := by
  subst hn
  exact cell_one_new _ _ _
/-- behind an append onto a row of the call's own, nothing that was there when the call began has changed -/
theorem Only.appended {S : Nat → Prop} {a b c : World} {base n size : Nat} {e : TypeId} {v : Value} {xs : List Value} (h : Only S a b) (hown : b.ownsRow base e size v n xs) (hb : a.heap.size ≤ base) (hg : b.grownBy c v.ownBlock) : Only S a c :=
  h.grown hg (fun k hk hlt => by have := (hown.lt k hk).1; omega)

/-- '(a % m + m) % m' of Go is a number from 0 to m - 1 -/
theorem norm_mod (a : Int) (m : Nat) (h0 : 0 < m) (h1 : m ≤ 1000000000) : ∃ f : Nat, f < m ∧ (wrap64 (a.tmod m + m)).tmod m = f := by
  have hm : (0 : Int) < m := by omega
  have h2 := Int.tmod_lt_of_pos a hm
  have h3 : -(m : Int) < a.tmod m := Int.lt_tmod_of_pos a hm
  have hw : wrap64 (a.tmod m + m) = a.tmod m + m := by unfold wrap64; omega
  rw [hw, Int.tmod_eq_emod_of_nonneg (by omega)]
  have h4 := Int.emod_nonneg (a.tmod m + m) (by omega : (m : Int) ≠ 0)
  have h5 := Int.emod_lt_of_pos (a.tmod m + m) hm
  exact ⟨((a.tmod m + m) % m).toNat, by omega, by omega⟩

theorem empty_of_size {b : ByteArray} (h : b.size = 0) : b.toList.isEmpty = true := by
  rw [ByteArray.toList_eq, List.isEmpty_iff, ← List.length_eq_zero_iff]
  simpa using h
theorem full_of_size {b : ByteArray} (h : b.size ≠ 0) : b.toList.isEmpty = false := by
  rw [ByteArray.toList_eq]
  cases hb : b.data.toList with
  | nil => exact absurd (by have : b.data.toList.length = 0 := by rw [hb]; rfl
                            simpa using this) h
  | cons x l => rfl

/-- 'wp_region_still_tail' with the draw under its name -/
theorem wp_region_tail {P : Program} {id : Nat} {Q : Exit → Act → World → Prop} {a : Act} {w : World} {l : List Oper} (n : Nat) (hm : P.follows .mixedOrders = true) (hB : Region.lexTailB .any l.toArray n = true)
    (h : wpStill P l.toArray w.drew (fun a' => wpList P l.toArray Q (l.drop n) a' w.drew) (l.take n) a) : (Code.region id l.toArray true).wp P Q a w :=
  wp_region_still_tail n hm hB h

/-- .. with what follows behind a letter: the steps are cheap -/
theorem wp_region_tail2 {P : Program} {id : Nat} {Q : Exit → Act → World → Prop} {a : Act} {w : World} {l : List Oper} (n : Nat) (hm : P.follows .mixedOrders = true) (hB : Region.lexTailB .any l.toArray n = true)
    (h : ∀ K : Act → Prop, Hid (∀ a', wpList P l.toArray Q (l.drop n) a' w.drew → K a') → wpStill P l.toArray w.drew K (l.take n) a) : (Code.region id l.toArray true).wp P Q a w :=
  wp_region_still_tail n hm hB (h _ (Lib.hid (fun _ h => h)))
/-- an operation whose guard is false -/
theorem wpStill_skip {P : Program} {ops : Array Oper} {w : World} {Q : Act → Prop} {a : Act} {o : Oper} {rest : List Oper} (hw : Region.wanted o (yielded ops a.tmps) = false) (h : wpStill P ops w Q rest (a.put o.dst undef)) : wpStill P ops w Q (o :: rest) a :=
  wpStill_step fun K hK => by rw [if_neg (by rw [hw]; exact Bool.false_ne_true)]; exact hK _ h
/-- an operation whose guard is true -/
theorem wpStill_want {P : Program} {ops : Array Oper} {w : World} {Q : Act → Prop} {a : Act} {o : Oper} {rest : List Oper} (hw : Region.wanted o (yielded ops a.tmps) = true) (h : ∀ K : Act → Prop, (∀ a, wpStill P ops w Q rest a → K a) → o.still P a w K) : wpStill P ops w Q (o :: rest) a :=
  wpStill_step fun K hK => by rw [if_pos hw]; exact h K hK

end Go.Proofs.Ytekmjhenhgmpgaa

/- The sum of a text, in plain numbers, and what the program's and the document's functions make of it. -/
namespace Go.Proofs.Ytekmjhenhgmpgaa
open Go.RowKit

/-- a row of bytes that is read -/
structure BytesIn (w : World) (ao : Option Addr) (l : List Int) : Prop where
  wf : ∀ x ∈ l, 0 ≤ x ∧ x ≤ 255
  len : l.length ≤ maxLen
  cell : ∀ i, i < l.length → ∃ b off, ao = some ⟨b, off, none⟩ ∧ w.cell? ⟨b, off + i, none⟩ = some (.int .u8 (l.getD i 0))

theorem BytesIn.keeps {S : Nat → Prop} {w w' : World} {ao : Option Addr} {l : List Int} (h : BytesIn w ao l) (ho : Only S w w') (hs : ∀ a, ao = some a → ¬ S a.block) : BytesIn w' ao l :=
  ⟨h.wf, h.len, fun i hi => by
    obtain ⟨b, off, e, hc⟩ := h.cell i hi
    refine ⟨b, off, e, ?_⟩
    have hlt : b < w.heap.size := World.block_lt_of_cell? w _ hc
    have hb := ho.block b hlt (hs ⟨b, off, none⟩ e)
    rw [← hc]
    simp [World.cell?, hb]⟩
theorem BytesIn.at {w : World} {ao : Option Addr} {l : List Int} (h : BytesIn w ao l) {k : Nat} (hk : k < l.length) : ∃ b off, ao = some ⟨b, off, none⟩ ∧ w.cell? ⟨b, off + k, none⟩ = some (.int .u8 (l.getD k 0)) ∧ 0 ≤ l.getD k 0 ∧ l.getD k 0 ≤ 255 := by
  obtain ⟨b, off, e, hc⟩ := h.cell k hk
  have hmem : l.getD k 0 ∈ l := by rw [List.getD_eq_getElem?_getD, List.getElem?_eq_getElem hk]; exact List.getElem_mem hk
  exact ⟨b, off, e, hc, h.wf _ hmem⟩

namespace Crc
def half (x : Int) : Int := if x % 2 = 1 then bits .xor .u32 (x / 2) 2197175160 else x / 2
def halfs : Nat → Int → Int
  | 0, x => x
  | n + 1, x => half (halfs n x)
def byte (x c : Int) : Int := halfs 8 (bits .xor .u32 x c)
def sum (x : Int) (l : List Int) : Int := l.foldl byte x
def add (s : Int) (l : List Int) : Int := 4294967295 - sum (4294967295 - s) l

def U (x : Int) : Prop := 0 ≤ x ∧ x < 4294967296
theorem xor_u (a b : Int) : U (bits .xor .u32 a b) := by
  unfold bits
  simp only [IntKind.wrap_u32]
  constructor <;> omega
theorem half_u {x : Int} (h : U x) : U (half x) := by
  unfold half
  split
  · exact xor_u _ _
  · obtain ⟨h0, h1⟩ := h; exact ⟨by omega, by omega⟩
theorem halfs_u {x : Int} (h : U x) : ∀ n, U (halfs n x)
  | 0 => h
  | n + 1 => half_u (halfs_u h n)
theorem byte_u (x c : Int) : U (byte x c) := halfs_u (xor_u x c) 8
theorem sum_u {x : Int} (h : U x) (l : List Int) : U (sum x l) := by
  unfold sum
  induction l generalizing x with
  | nil => exact h
  | cons c r ih => exact ih (byte_u x c)
theorem sum_step (x : Int) (l : List Int) (k : Nat) (hk : k < l.length) : sum x (l.take (k + 1)) = byte (sum x (l.take k)) (l.getD k 0) := by
  unfold sum
  rw [List.take_add_one, List.getElem?_eq_getElem hk, Option.toList_some, List.foldl_append, List.getD_eq_getElem?_getD, List.getElem?_eq_getElem hk]
  rfl
theorem and_one {x : Int} (h : U x) : bits .and .u32 x 1 = x % 2 :=
  bits_mask .u32 32 (by decide) (fun n h0 h1 => by rw [IntKind.wrap_u32]; omega) 1 (by decide) x h.1 (by have := h.2; omega)
theorem xor_zero {x : Int} (h : U x) : bits .xor .u32 x 0 = x := by
  obtain ⟨a, rfl⟩ := Int.eq_ofNat_of_zero_le h.1
  have h1 := h.2
  unfold bits
  simp only [IntKind.wrap_u32]
  have e : (BitVec.ofInt 32 (a : Int) ^^^ BitVec.ofInt 32 0) = BitVec.ofInt 32 (a : Int) := by simp
  show ((BitVec.ofInt 32 (a : Int) ^^^ BitVec.ofInt 32 0).toNat : Int) % 4294967296 = a
  rw [e]
  simp [BitVec.ofInt_natCast]
  omega
theorem half_code {x : Int} (h : U x) : bits .xor .u32 (x / 2) (bits .and .u32 2197175160 (-(bits .and .u32 x 1) % 4294967296)) = half x := by
  rw [and_one h]
  unfold half
  have hu : U (x / 2) := by obtain ⟨h0, h1⟩ := h; exact ⟨by omega, by omega⟩
  rcases (by omega : x % 2 = 0 ∨ x % 2 = 1) with e | e
  · rw [e, if_neg (by decide)]
    have : bits .and .u32 2197175160 (-0 % 4294967296) = 0 := by decide +kernel
    rw [this, xor_zero hu]
  · rw [e, if_pos rfl]
    have : bits .and .u32 2197175160 (-1 % 4294967296) = 2197175160 := by decide +kernel
    rw [this]
theorem not_u {x : Int} (h : U x) : bits .xor .u32 IntKind.u32.max x = 4294967295 - x := by
  obtain ⟨a, rfl⟩ := Int.eq_ofNat_of_zero_le h.1
  have h1 := h.2
  unfold bits
  simp only [IntKind.wrap_u32]
  have em : IntKind.u32.max = 4294967295 := by decide +kernel
  rw [em]
  have e : (BitVec.ofInt 32 4294967295 ^^^ BitVec.ofInt 32 (a : Int)) = ~~~ (BitVec.ofInt 32 (a : Int)) := by
    have : BitVec.ofInt 32 4294967295 = BitVec.allOnes 32 := by decide +kernel
    rw [this, BitVec.allOnes_xor]
  show ((BitVec.ofInt 32 4294967295 ^^^ BitVec.ofInt 32 (a : Int)).toNat : Int) % 4294967296 = 4294967295 - a
  rw [e, BitVec.toNat_not]
  simp only [BitVec.ofInt_natCast, BitVec.toNat_ofNat]
  omega
theorem not_U {x : Int} (h : U x) : U (4294967295 - x) := by obtain ⟨h0, h1⟩ := h; exact ⟨by omega, by omega⟩
end Crc

set_option maxHeartbeats 1000000 in
theorem crc_add_at (w : World) (s : Int) (ao : Option Addr) (cap : Nat) (l : List Int) (hs : Crc.U s) (hl : BytesIn w ao l) :
    Calls Try.prog 94 #[.int .u32 s, .slice ao l.length cap] w fun e w' => e = .returned (.int .u32 (Crc.add s l)) ∧ w = w' := by
  have hlm := hl.len
  unfold maxLen at hlm
  have hs' := Crc.not_U hs
  have hn := Crc.not_u hs
  have HN := Lib.hid hn
  clear hn
  go_enter Try.func94, Try.ntmps94
  go_wp2_with fail
  go_loop [5, 12] (fun v5 i => ∃ k : Nat, k ≤ l.length ∧ i = .int .i64 k ∧ v5 = .int .u32 (Crc.sum (4294967295 - s) (l.take k))) (fun _ i => l.length - (intOf i).toNat)
  case atStart => exact ⟨0, by omega, rfl, by rw [HN.out]; rfl⟩
  case round =>
    obtain ⟨k, hk, rfl, rfl⟩ := hrel
    by_cases hlt : k < l.length
    · obtain ⟨b, off, rfl, hcell⟩ := hl.cell k hlt
      have hmem : l.getD k 0 ∈ l := by rw [List.getD_eq_getElem?_getD, List.getElem?_eq_getElem hlt]; exact List.getElem_mem hlt
      have hw := hl.wf _ hmem
      have hst := Crc.sum_step (4294967295 - s) l k hlt
      have HST := Lib.hid hst
      clear hst hmem
      generalize l.getD k 0 = c at hcell hw HST
      generalize Crc.sum (4294967295 - s) (l.take k) = x at HST ⊢
      go_wp2_with fail
      have hx0 := Crc.xor_u x c
      obtain ⟨x0, HX⟩ : ∃ x0, RowKit.Hid (bits .xor .u32 x c = x0) := ⟨_, Lib.hid rfl⟩
      rw [HX.out] at hx0 ⊢
      go_loop [5, 20] (fun v5 i => ∃ j : Nat, j ≤ 8 ∧ i = .int .i64 j ∧ v5 = .int .u32 (Crc.halfs j x0)) (fun _ i => 8 - (intOf i).toNat)
      case atStart => exact ⟨0, by omega, rfl, rfl⟩
      case round =>
        obtain ⟨j, hj, rfl, rfl⟩ := hrel
        by_cases hj8 : j < 8
        · have hu := Crc.halfs_u hx0 j
          have HC := Lib.hid (Crc.half_code hu)
          obtain ⟨y, HY⟩ : ∃ y, RowKit.Hid (Crc.halfs j x0 = y) := ⟨_, Lib.hid rfl⟩
          rw [HY.out] at hu HC ⊢
          obtain ⟨u0, u1⟩ := hu
          go_wp2_with fail
          go_round
          case rel => exact ⟨j + 1, by omega, by go_num, by rw [HC.out]; unfold Crc.halfs; rw [HY.out]⟩
          case measure => simp [intOf]; omega
        · have e : j = 8 := by omega
          subst e
          go_wp2_with fail
          go_round
          case rel => exact ⟨k + 1, by omega, by go_num, by rw [HST.out]; unfold Crc.byte; rw [HX.out]⟩
          case measure => simp [intOf]; omega
    · have e : k = l.length := by omega
      subst e
      have hu := Crc.sum_u hs' l
      have hn2 := Crc.not_u hu
      have HN2 := Lib.hid hn2
      clear hn2
      go_wp2_with fail
      go_ret
      refine ⟨?_, rfl⟩
      show Ending.returned (Value.int IntKind.u32 (bits BinOp.xor IntKind.u32 IntKind.u32.max (Crc.sum (4294967295 - s) l))) = _
      rw [HN2.out]
      rfl

theorem crc_sum_at (w : World) (ao : Option Addr) (cap : Nat) (l : List Int) (hl : BytesIn w ao l) :
    Calls Try.prog 84 #[.slice ao l.length cap] w fun e w' => e = .returned (.int .u32 (Crc.add 0 l)) ∧ w = w' := by
  go_enter Try.func84, Try.ntmps84
  go_wp2_with fail
  refine (crc_add_at w 0 ao cap l ⟨by decide, by decide⟩ hl).mono ?_
  rintro e w1 ⟨rfl, rfl⟩
  go_wp2_with fail
  go_ret
  exact ⟨rfl, rfl⟩

end Go.Proofs.Ytekmjhenhgmpgaa

/- Rows of bytes of a call's own: made, appended to, written, read; and text turned into such a row. -/
namespace Go.Proofs.Ytekmjhenhgmpgaa
open Go.RowKit

namespace By
theorem u_bytes : Try.prog.underlying 80 = some (.slice 5) := by kernel_rfl
theorem info : (Try.prog.info? 5).map (fun i => (i.zero, i.size, i.bytes)) = some (some (.int .u8 0), 1, 1) := by kernel_rfl
end By

/-- a row of bytes of the call's own -/
def Bts (w : World) (base : Nat) (v : Value) (l : List Int) : Prop := w.ownsRow base 5 1 v l.length (l.map (Value.int .u8))

section
variable {w w' : World} {base : Nat} {v : Value} {l : List Int}
theorem Bts.keeps {S : Nat → Prop} (h : Bts w base v l) (ho : Only S w w') (hs : ∀ k, v.ownBlock = some k → ¬ S k) : Bts w' base v l := row_keeps h ho hs
theorem Bts.shape (h : Bts w base v l) (hl : 0 < l.length) : ∃ g cap, v = .slice (some ⟨g, 0, none⟩) l.length cap ∧ base ≤ g ∧ l.length ≤ cap ∧ cap ≤ maxLen := by
  rcases h.2 with ⟨_, h0⟩ | ⟨g, cap, cur, rfl, hb, _, hn, hm, _⟩
  · omega
  · exact ⟨g, cap, rfl, hb, hn, hm⟩
theorem Bts.shape' (h : Bts w base v l) : ∃ ao cap, v = .slice ao l.length cap := by
  rcases h.2 with ⟨h1, h0⟩ | ⟨g, cap, cur, rfl, hb, _, hn, hm, _⟩
  · exact ⟨none, 0, by rw [h1, h0]⟩
  · exact ⟨_, cap, rfl⟩
theorem Bts.nil (w : World) (base : Nat) : Bts w base (.slice none 0 0) [] := World.ownsRow_nil _ _ _ _
theorem Bts.read {ao : Option Addr} {cap : Nat} (h : Bts w base (.slice ao l.length cap) l) (hw : ∀ x ∈ l, 0 ≤ x ∧ x ≤ 255) : BytesIn w ao l := by
  rcases h.2 with ⟨h1, h0⟩ | ⟨g, cap', cur, h1, hb, hg, hn, hm, _, ht⟩
  · exact ⟨hw, by unfold maxLen; omega, fun i hi => by omega⟩
  · simp only [Value.slice.injEq] at h1
    obtain ⟨rfl, _, rfl⟩ := h1
    refine ⟨hw, by omega, fun i hi => ⟨g, 0, rfl, ?_⟩⟩
    rw [Nat.zero_add]
    have := World.ownsRow.cellAt h i (by simpa using hi)
    rw [this, List.getElem?_map, List.getElem?_eq_getElem hi]
    simp [List.getD, hi]
theorem Bts.write {g cap n : Nat} (h : Bts w base (.slice (some ⟨g, 0, none⟩) n cap) l) (hn : n = l.length) (j : Nat) (x : Int) :
    Bts (w.setCell ⟨g, j, none⟩ (.int .u8 x)) base (.slice (some ⟨g, 0, none⟩) n cap) (l.set j x) ∧ w.grownBy (w.setCell ⟨g, j, none⟩ (.int .u8 x)) (some g) := by
  subst hn
  have := World.ownsRow.stored h j (.int .u8 x)
  refine ⟨?_, this.2⟩
  unfold Bts
  rw [List.length_set, List.map_set]
  exact this.1
theorem Bts.at {g cap n : Nat} (h : Bts w base (.slice (some ⟨g, 0, none⟩) n cap) l) (hn : n = l.length) (j : Nat) (hj : j < l.length) : w.cell? ⟨g, j, none⟩ = some (.int .u8 (l.getD j 0)) := by
  subst hn
  rw [World.ownsRow.cellAt h j (by simpa using hj), List.getElem?_map, List.getElem?_eq_getElem hj]
  simp [List.getD, hj]
theorem Bts.free {g cap n : Nat} (h : Bts w base (.slice (some ⟨g, 0, none⟩) n cap) l) (hn : n = l.length) (j : Nat) : w.frozen? ⟨g, j, none⟩ = false := by
  subst hn
  exact World.ownsRow.frozenAt h j
theorem cell_byte (w : World) (c : Int) (t : TypeId) (n : Nat) (hn : n = w.heap.size) : (w.alloc (.cells #[.int .u8 c] t)).cell? ⟨n, 0, none⟩ = some (.int .u8 c) := by
  subst hn
  rw [(Blk.made w _ _).cell]; rfl
end

section
variable {ops : Array Oper} {rest : List Oper} {o : Oper} {a : Act} {Q : Exit → Act → World → Prop}
theorem wpList_append_byte (w : World) (hgd : o.guard = none) (s x : Operand) (ho : o.op = .call { callee := .builtin .append, args := #[s, x], argTypes := #[80, 80] })
    (base : Nat) (v : Value) (l : List Int) (c : Int) (ad : Addr) (n : Nat) (hs : a.eval s = v) (hown : Bts w base v l) (hx : a.eval x = .slice (some ad) 1 n) (hc : w.cell? ad = some (.int .u8 c))
    (hlen : l.length + 1 ≤ 140737488355328) (hbase : base ≤ w.heap.size)
    (h : ∀ v' w', Bts w' base v' (l ++ [c]) → w.grownBy w' v.ownBlock → wpList Try.prog ops Q rest (a.put o.dst v') w') : wpList Try.prog ops Q (o :: rest) a w := by
  obtain ⟨i, hi, hz, hsz, hby⟩ := info_parts By.info
  refine wpList_append_own w hgd s x _ ho base 5 i (.int .u8 0) 1 1 By.u_bytes hi hz hsz hby rfl (by decide) v l.length _ hs hown ad 1 n [.int .u8 c] hx rfl ?_ ?_ ?_ ?_ hbase ?_
  · intro j u hj
    cases j with
    | zero =>
      cases hj
      have : ad.add 0 = ad := by unfold Addr.add; obtain ⟨b, off, sp⟩ := ad; cases sp <;> rfl
      rw [this]; exact hc
    | succ j => cases hj
  · simp [Value.oneCell']
  · unfold maxLen; omega
  · omega
  · intro v' w' h1 h2 _
    refine h v' w' ?_ h2
    unfold Bts
    simpa using h1
theorem wpList_make_byte (w : World) (hg : o.guard = none) (l c : Operand) (hop : o.op = Op.makeSlice 80 l c)
    (base : Nat) (kl kc : IntKind) (n : Nat) (hl : a.eval l = .int kl 1) (hc : a.eval c = .int kc (n : Int)) (hn : 1 ≤ n) (b2 : n ≤ 281474976710656) (b4 : base ≤ w.heap.size)
    (hK : ∀ w', Bts w' base (.slice (some ⟨w.heap.size, 0, none⟩) 1 n) [0] → w.grownBy w' none → wpList Try.prog ops Q rest (a.put o.dst (.slice (some ⟨w.heap.size, 0, none⟩) 1 n)) w') :
    wpList Try.prog ops Q (o :: rest) a w := by
  obtain ⟨i, hi, hz, hsz, hby⟩ := info_parts By.info
  have hrun := run_make (P := Try.prog) w 80 5 i (.int .u8 0) By.u_bytes hi hz kl kc 1 n (by decide) (by omega) (by rw [hby]; omega) (by omega)
  rw [hsz] at hrun
  simp only [Int.toNat_one, Int.toNat_natCast] at hrun
  have hz1 : (Value.int .u8 0).cells = #[Value.int .u8 0] := rfl
  rw [hz1] at hrun
  refine wpList_plain hg fun K hK' => ?_
  unfold Oper.wp
  simp [execOp, hop, hl, hc, hrun, Result.andThen]
  refine hK' _ _ (hK _ ⟨rfl, .inr ⟨w.heap.size, n, _, rfl, b4, heap_alloc_new w _, hn, by unfold maxLen; omega, (size_madeCells _ _).trans (Nat.mul_one n).symm, ?_⟩⟩ (World.grownBy_alloc w _ none))
  rw [Nat.mul_one, toList_madeCells_one]
  obtain ⟨m, rfl⟩ : ∃ m, n = m + 1 := ⟨n - 1, by omega⟩
  rfl
end

end Go.Proofs.Ytekmjhenhgmpgaa

/- Texts and rows of bytes: a text's numbers, a row made of a text, what is appended to it, and a text made of a row. -/
namespace Go.Proofs.Ytekmjhenhgmpgaa
open Go.RowKit
set_option maxRecDepth 100000

/-- the numbers of a text -/
def nums (s : ByteArray) : List Int := s.data.toList.map (fun b => (b.toNat : Int))
/-- the text of numbers -/
def textOf (l : List Int) : ByteArray := ⟨(l.map (fun x => UInt8.ofNat x.toNat)).toArray⟩

theorem nums_length (s : ByteArray) : (nums s).length = s.size := by simp [nums]
theorem textOf_size (l : List Int) : (textOf l).size = l.length := by
  show (l.map _).toArray.size = _
  simp
theorem textOf_nums (s : ByteArray) : textOf (nums s) = s := by
  unfold textOf nums
  obtain ⟨d⟩ := s
  congr 1
  apply Array.ext'
  simp [Function.comp_def]
theorem nums_byte (s : ByteArray) : ∀ x ∈ nums s, 0 ≤ x ∧ x ≤ 255 := by
  intro x hx
  unfold nums at hx
  obtain ⟨b, _, rfl⟩ := List.mem_map.1 hx
  have := b.toNat_lt
  omega
theorem nums_textOf {l : List Int} (h : ∀ x ∈ l, 0 ≤ x ∧ x ≤ 255) : nums (textOf l) = l := by
  unfold nums textOf
  simp only [List.map_map]
  conv => rhs; rw [← List.map_id l]
  refine List.map_congr_left fun x hx => ?_
  have := h x hx
  simp
  omega
theorem nums_append (s t : ByteArray) : nums (s ++ t) = nums s ++ nums t := by simp [nums]
theorem nums_inj {s t : ByteArray} (h : nums s = nums t) : s = t := by rw [← textOf_nums s, h, textOf_nums]
theorem textOf_append (a b : List Int) : textOf (a ++ b) = textOf a ++ textOf b := by
  unfold textOf
  apply ByteArray.ext
  simp
theorem nums_getD (s : ByteArray) (i : Nat) (h : i < s.size) : (nums s).getD i 0 = ((s.data.toList.getD i 0).toNat : Int) := by
  have : i < s.data.toList.length := by simpa using h
  unfold nums
  rw [List.getD_eq_getElem?_getD, List.getD_eq_getElem?_getD, List.getElem?_map, List.getElem?_eq_getElem this]
  rfl
theorem nums_get (s : ByteArray) (i : Nat) (h : i < s.size) : (nums s).getD i 0 = ((s[i]'h).toNat : Int) := by
  rw [nums_getD s i h]
  have h' : i < s.data.toList.length := by simpa using h
  rw [List.getD_eq_getElem?_getD, List.getElem?_eq_getElem h']
  rfl
theorem nums_extract (s : ByteArray) (i j : Nat) : nums (s.extract i j) = ((nums s).drop i).take (j - i) := by
  unfold nums
  rw [ByteArray.data_extract, Array.toList_extract, List.extract_eq_take_drop, List.map_take, List.map_drop]

/-- a row that was made of a text -/
def ConvRow (w : World) (g : Nat) (l : List Int) (cap : Nat) : Prop :=
  l.length ≤ cap ∧ cap ≤ maxLen ∧ (∀ x ∈ l, 0 ≤ x ∧ x ≤ 255) ∧ ∃ cur : Array Value, w.heap[g]? = some (.cells cur 5 (cap, cap + 1)) ∧ cur.size = cap ∧ cur.toList.take l.length = l.map (Value.int .u8)

theorem ConvRow.keeps {S : Nat → Prop} {w w' : World} {g cap : Nat} {l : List Int} (h : ConvRow w g l cap) (ho : Only S w w') (hs : ¬ S g) : ConvRow w' g l cap := by
  obtain ⟨h1, h2, h3, cur, h4, h5, h6⟩ := h
  exact ⟨h1, h2, h3, cur, ho.keeps hs h4, h5, h6⟩
theorem ConvRow.cell {w : World} {g cap : Nat} {l : List Int} (h : ConvRow w g l cap) (i : Nat) (hi : i < l.length) : w.cell? ⟨g, i, none⟩ = some (.int .u8 (l.getD i 0)) := by
  obtain ⟨h1, h2, h3, cur, h4, h5, h6⟩ := h
  have h7 : cur[i]? = some (.int .u8 (l.getD i 0)) := by
    have : (cur.toList.take l.length)[i]? = (l.map (Value.int .u8))[i]? := by rw [h6]
    rw [List.getElem?_take, if_pos hi, List.getElem?_map, List.getElem?_eq_getElem hi] at this
    rw [← Array.getElem?_toList, this, List.getD_eq_getElem?_getD, List.getElem?_eq_getElem hi]
    rfl
  simp [World.cell?, h4, h7]
theorem ConvRow.read {w : World} {g cap : Nat} {l : List Int} (h : ConvRow w g l cap) : BytesIn w (some ⟨g, 0, none⟩) l :=
  ⟨h.2.2.1, by have := h.1; have := h.2.1; omega, fun i hi => ⟨g, 0, rfl, by rw [Nat.zero_add]; exact h.cell i hi⟩⟩

namespace Cv
theorem run_storeCells_mark (P : Program) (g o : Nat) (t : TypeId) (lo hi : Nat) : ∀ (vs : List Value) (i : Nat) (cur : Array Value) (w : World), w.heap[g]? = some (.cells cur t (lo, hi)) → o + i + vs.length ≤ cur.size → o + i + vs.length ≤ lo → (∀ v ∈ vs, v.oneCell' = true) →
    (storeCells ⟨g, o, none⟩ vs i).run P w = .ok () (w.setRow g (cur.toList.take (o + i) ++ vs ++ cur.toList.drop (o + i + vs.length)).toArray)
  | [], i, cur, w, hg, _, _, _ => by
    simp only [storeCells, List.append_nil, List.length_nil, Nat.add_zero, List.take_append_drop, Array.toArray_toList]
    rw [setRow_self w g cur t (lo, hi) hg]
    rfl
  | v :: rest, i, cur, w, hg, hl, hlo, h1 => by
    have hi' : o + i < cur.size := by simp at hl; omega
    have hadd : (⟨g, o, none⟩ : Addr).add i = ⟨g, o + i, none⟩ := by unfold Addr.add; split <;> simp_all
    have hcell : w.cell? ⟨g, o + i, none⟩ = some cur[o + i] := by simp [World.cell?, hg, hi']
    have hfro : w.frozen? ⟨g, o + i, none⟩ = false := by simp [World.frozen?, hg]; simp at hlo; omega
    have hst : (store ((⟨g, o, none⟩ : Addr).add i) v).run P w = .ok () (w.setRow g (cur.setIfInBounds (o + i) v)) := by
      rw [hadd, run_store P w _ v _ (h1 v (by simp)), hcell]
      simp [hfro, setCell_eq_setRow w g (o + i) cur t (lo, hi) v hg]
    have ih := run_storeCells_mark P g o t lo hi rest (i + 1) (cur.setIfInBounds (o + i) v) (w.setRow g (cur.setIfInBounds (o + i) v)) (setRow_heap w g cur _ t _ hg) (by simp at hl ⊢; omega) (by simp at hlo ⊢; omega) (fun x hx => h1 x (by simp [hx]))
    simp only [storeCells, Sem.run_bind, hst, Result.andThen_ok, ih, setRow_setRow]
    congr 3
    have e := list_seg_step cur.toList (o + i) v rest (by simp at hl ⊢; omega)
    simpa [Array.toList_setIfInBounds, Nat.add_assoc] using e

theorem run_append_mark {P : Program} (w : World) (t ty e : TypeId) (i : TypeInfo) (ht : P.underlying t = some (.slice e)) (hi : P.info? e = some i) (hs1 : i.size = 1) (lo hi' : Nat)
    (g sLen sCap : Nat) (cur : Array Value) (hg : w.heap[g]? = some (.cells cur e (lo, hi')))
    (a : Addr) (m c : Nat) (news : List Value) (hl : news.length = m) (hnews : ∀ j u, news[j]? = some u → w.cell? (a.add j) = some u) (h1 : ∀ u ∈ news, u.oneCell' = true)
    (hroom : sLen + m ≤ sCap) (hfit : sLen + m ≤ cur.size) (hlo : sLen + m ≤ lo) :
    (Builtin.append_ #[t, t] ty #[.slice (some ⟨g, 0, none⟩) sLen sCap, .slice (some a) m c]).run P w =
      .ok (.slice (some ⟨g, 0, none⟩) (sLen + m) sCap) (w.setRow g (cur.toList.take sLen ++ news ++ cur.toList.drop (sLen + news.length)).toArray) := by
  have hf := run_firstCells_some (P := P) w i.size m a m c news (by rw [hs1, Nat.mul_one]; exact hl) hnews
  have hst := run_storeCells_mark P g (sLen * i.size) e lo hi' news 0 cur w hg (by rw [hs1]; omega) (by rw [hs1]; omega) h1
  simp only [Nat.add_zero, hs1, Nat.mul_one] at hst
  rw [hs1] at hf
  simp [Builtin.append_, run_underlying ht, sizeOf, typeInfo, hi, Builtin.lenOf, hroom, hf, hs1, Addr.add_lit, hst]
end Cv

section
variable {ops : Array Oper} {rest : List Oper} {o : Oper} {a : Act} {Q : Exit → Act → World → Prop}
theorem Cv.u_byte : Try.prog.underlying 5 = some (.int .u8) := by kernel_rfl
theorem Cv.u_string : Try.prog.underlying 9 = some .string := by kernel_rfl
theorem wpList_conv_bytes (w : World) (hg : o.guard = none) (src : TypeId) (x : Operand) (hop : o.op = Op.convert src 80 x) (hs : Try.prog.underlying src = some .string) (he : Try.prog.underlying 5 = some (.int .u8)) (s : ByteArray) (hx : a.eval x = .string s) (hsz : s.size ≤ maxLen)
    (h : ∀ g cap w', ConvRow w' g (nums s) cap → w.heap.size ≤ g → Only NoBlock w w' → wpList Try.prog ops Q rest (a.put o.dst (.slice (some ⟨g, 0, none⟩) (nums s).length cap)) w') : wpList Try.prog ops Q (o :: rest) a w := by
  refine wpList_plain hg fun K hK => ?_
  have hrun := run_bytes_of_string (P := Try.prog) w src 80 5 s hs By.u_bytes he
  have hge := grownCap_ge w s.size 0 5
  have hle := grownCap_le_maxLen w s.size 0 5 hsz
  unfold Oper.wp
  simp [execOp, hop, hx, hrun, Result.andThen, -World.alloc_eq, -World.drew_eq]
  generalize grownCap w s.size 0 5 = cap at hge hle ⊢
  have hbs : (bytesRow s cap).size = cap := by unfold bytesRow; simp; omega
  rw [hbs, ← nums_length]
  refine hK _ _ (h w.heap.size cap _ ⟨by rw [nums_length]; exact hge, hle, nums_byte s, bytesRow s cap, ?_, hbs, ?_⟩ (Nat.le_refl _) ⟨rfl, rfl, rfl, by simp, fun k hk _ => heap_alloc_old w.drew _ hk⟩)
  · exact heap_alloc_new w.drew _
  · rw [nums_length]
    unfold bytesRow nums
    rw [Array.toList_append, List.take_append_of_le_length (by simp)]
    rw [List.take_of_length_le (by simp)]
    simp [Function.comp_def]

theorem wpList_append_conv (w : World) (hgd : o.guard = none) (s x : Operand) (ho : o.op = .call { callee := .builtin .append, args := #[s, x], argTypes := #[80, 80] })
    (g cap n : Nat) (l : List Int) (hs : a.eval s = .slice (some ⟨g, 0, none⟩) n cap) (hn : n = l.length) (hrow : ConvRow w g l cap) (ad : Addr) (m c : Nat) (news : List Int) (hx : a.eval x = .slice (some ad) m c) (hm : news.length = m)
    (hnews : ∀ j u, (news.map (Value.int .u8))[j]? = some u → w.cell? (ad.add j) = some u) (hwf : ∀ x ∈ news, 0 ≤ x ∧ x ≤ 255) (hlen : l.length + m ≤ 140737488355328) (r : List Int) (hr : l ++ news = r)
    (h : ∀ ao cap' w', BytesIn w' ao r → Only (fun k => k = g) w w' → r.length ≤ cap' → cap' ≤ maxLen → wpList Try.prog ops Q rest (a.put o.dst (.slice ao r.length cap')) w') : wpList Try.prog ops Q (o :: rest) a w := by
  subst hn
  subst hr
  rw [List.length_append, hm] at h
  obtain ⟨i, hi, hz, hsz, hby⟩ := info_parts By.info
  have hrd := hrow.read
  obtain ⟨r1, r2, r3, cur, r4, r5, r6⟩ := hrow
  refine wpList_plain hgd fun K hK => ?_
  have hwf2 : ∀ x ∈ l ++ news, 0 ≤ x ∧ x ≤ 255 := by
    intro x hx
    rcases List.mem_append.1 hx with hx | hx
    · exact r3 x hx
    · exact hwf x hx
  have hml : (l ++ news).length ≤ maxLen := by rw [List.length_append, hm]; unfold maxLen; omega
  unfold Oper.wp execOp
  simp only [ho, resolve, invoke, builtin, Sem.run_bind, Sem.run_pure, Result.andThen_ok, List.map_toArray, List.map_cons, List.map_nil, hs, hx]
  by_cases hroom : l.length + m ≤ cap
  · have hr := Cv.run_append_mark (P := Try.prog) w 80 o.type 5 i By.u_bytes hi hsz cap (cap + 1) g l.length cap cur r4 ad m c (news.map (Value.int .u8)) (by simpa using hm) hnews (by intro u hu; obtain ⟨x, _, rfl⟩ := List.mem_map.1 hu; rfl) hroom (by omega) (by omega)
    rw [hr]
    refine hK _ _ (h (some ⟨g, 0, none⟩) cap _ ⟨hwf2, hml, fun k hk => ⟨g, 0, rfl, ?_⟩⟩ ⟨rfl, rfl, rfl, by simp, fun k _ hk => setRow_other w g k _ hk⟩ hroom r2)
    have hb := setRow_heap w g cur (cur.toList.take l.length ++ news.map (Value.int .u8) ++ cur.toList.drop (l.length + (news.map (Value.int .u8)).length)).toArray _ _ r4
    rw [Nat.zero_add]
    simp only [World.cell?, hb]
    rw [r6, ← List.map_append]
    simp only [List.getElem?_toArray]
    rw [List.getElem?_append_left (by simpa using hk), List.getElem?_map, List.getElem?_eq_getElem hk, List.getD_eq_getElem?_getD, List.getElem?_eq_getElem hk]
    rfl
  · have hr := run_append_grow (P := Try.prog) w 80 o.type 5 i (.int .u8 0) By.u_bytes hi hz ⟨g, 0, none⟩ l.length cap (l.map (Value.int .u8)) (by rw [hsz]; simp) (by
        intro j v hv
        have hj : j < l.length := by have := (List.getElem?_eq_some_iff.1 hv).1; simpa using this
        obtain ⟨b', off', e, hc⟩ := hrd.cell j hj
        cases e
        rw [List.getElem?_map, List.getElem?_eq_getElem hj] at hv
        cases hv
        rw [Addr.add_lit, hc, List.getD_eq_getElem?_getD, List.getElem?_eq_getElem hj]
        rfl) ad m c (news.map (Value.int .u8)) (by rw [hsz]; simpa using hm) hnews (by omega) (by omega) (growslice_fits (by omega) (by rw [hby]; omega))
    rw [hr]
    refine hK _ _ (h (some ⟨w.heap.size, 0, none⟩) _ _ ⟨hwf2, hml, fun k hk => ⟨w.heap.size, 0, rfl, ?_⟩⟩ ⟨rfl, rfl, rfl, by simp, fun k hk _ => heap_alloc_old w.drew _ hk⟩ (grownCap_ge w _ _ _) (grownCap_le_maxLen w _ _ _ (by unfold maxLen; omega)))
    have hb := heap_alloc_new w.drew (.cells ((l.map (Value.int .u8)).toArray ++ (news.map (Value.int .u8)).toArray ++ Builtin.zeroCells (Value.int .u8 0).cells (grownCap w (l.length + m) cap 5 - (l.length + m))) 5)
    rw [Nat.zero_add]
    have hb' : (w.drew.alloc (.cells ((l.map (Value.int .u8)).toArray ++ (news.map (Value.int .u8)).toArray ++ Builtin.zeroCells (Value.int .u8 0).cells (grownCap w (l.length + m) cap 5 - (l.length + m))) 5)).heap[w.heap.size]? = _ := hb
    simp only [World.cell?, hb']
    show (((l.map (Value.int .u8)).toArray ++ (news.map (Value.int .u8)).toArray) ++ _)[k]? = _
    rw [show (l.map (Value.int .u8)).toArray ++ (news.map (Value.int .u8)).toArray = ((l ++ news).map (Value.int .u8)).toArray from by simp]
    rw [Array.getElem?_append_left (by simpa using hk)]
    simp only [List.getElem?_toArray]
    rw [List.getElem?_map, List.getElem?_eq_getElem hk, List.getD_eq_getElem?_getD, List.getElem?_eq_getElem hk]
    rfl

theorem wpList_conv_text (w : World) (hg : o.guard = none) (dst : TypeId) (x : Operand) (hop : o.op = Op.convert 80 dst x) (hd : Try.prog.underlying dst = some .string) (he : Try.prog.underlying 5 = some (.int .u8)) (ao : Option Addr) (n cap : Nat) (l : List Int) (hx : a.eval x = .slice ao n cap) (hn : n = l.length) (hb : BytesIn w ao l)
    (h : wpList Try.prog ops Q rest (a.put o.dst (.string (textOf l))) w) : wpList Try.prog ops Q (o :: rest) a w := by
  subst hn
  refine wpList_plain hg fun K hK => ?_
  have hrun : (convert 80 dst (.slice ao l.length cap)).run Try.prog w = .ok (.string (textOf l)) w := by
    cases l with
    | nil =>
      rw [show ([] : List Int).length = 0 from rfl, run_convert_bytes_string w 80 dst 5 ao 0 cap By.u_bytes he hd]
      cases ao with
      | none => rfl
      | some a =>
        have hl := run_loadCells_list (P := Try.prog) w a ([] : List Value) (fun j v hj => by cases hj)
        exact run_bytesToString w a 0 cap [] hl
    | cons c r =>
      obtain ⟨b, off, rfl, _⟩ := hb.cell 0 (by simp)
      have := run_convert_bytes_back (P := Try.prog) w 80 dst 5 ⟨b, off, none⟩ cap ((c :: r).map (fun x => UInt8.ofNat x.toNat)) By.u_bytes he hd (by
        intro j hj
        have hj' : j < (c :: r).length := by simpa using hj
        obtain ⟨b', off', e, hc⟩ := hb.cell j hj'
        cases e
        have hw := hb.wf _ (List.getElem_mem hj')
        rw [Addr.add_lit, hc, List.getElem_map, List.getD_eq_getElem?_getD, List.getElem?_eq_getElem hj']
        congr 2
        simp only [Option.getD_some]
        rw [UInt8.toNat_ofNat']
        omega)
      rw [List.length_map] at this
      exact this
  unfold Oper.wp
  simp [execOp, hop, hx, hrun, Result.andThen]
  exact hK _ _ h
end

end Go.Proofs.Ytekmjhenhgmpgaa

/- Stuffing, in plain lists of numbers: pieces of up to 254 numbers that are no zero, each with its length and one ahead: taking back and laying out are inverse. -/
namespace Go.Proofs.Ytekmjhenhgmpgaa.Stuff

/-- how many numbers stand ahead of the first zero -/
def zero (b : List Int) : Nat := (b.takeWhile (fun x => decide (x ≠ 0))).length
theorem zero_le (b : List Int) : zero b ≤ b.length := by unfold zero; exact (List.takeWhile_prefix _).length_le

/-- the pieces of b, behind cur, which has no zero and fewer than 254 numbers -/
def encP (cur : List Int) : List Int → List Int
  | [] => ((cur.length : Int) + 1) :: cur
  | c :: r => if c = 0 then ((cur.length : Int) + 1) :: cur ++ encP [] r
    else if cur.length + 1 = 254 then 255 :: (cur ++ [c]) ++ encP [] r else encP (cur ++ [c]) r
def enc (b : List Int) : List Int := encP [] b

/-- what pieces stand for, behind out -/
def decP : Nat → List Int → List Int → Option (List Int)
  | 0, _, _ => none
  | _ + 1, _, [] => none
  | k + 1, out, n :: b => if n ≤ 0 ∨ (b.length : Int) + 1 < n then none
    else if (b.take (n.toNat - 1)).all (fun x => decide (x ≠ 0)) = false then none
    else if b.length = n.toNat - 1 then (if n = 255 then none else some (out ++ b))
    else decP k (if n < 255 then out ++ b.take (n.toNat - 1) ++ [0] else out ++ b.take (n.toNat - 1)) (b.drop (n.toNat - 1))
def dec (b : List Int) : Option (List Int) := decP (b.length + 1) [] b

theorem encP_length (cur b : List Int) : cur.length + b.length + 1 ≤ (encP cur b).length := by
  induction b generalizing cur with
  | nil => simp [encP]
  | cons c r ih =>
    unfold encP
    split
    · have := ih []; simp at this ⊢; omega
    · split
      · have := ih []; simp at this ⊢; omega
      · have := ih (cur ++ [c]); simp at this ⊢; omega
theorem encP_pos (cur b : List Int) : ∃ n r, encP cur b = n :: r := by
  have := encP_length cur b
  cases h : encP cur b with
  | nil => rw [h] at this; simp at this
  | cons n r => exact ⟨n, r, rfl⟩

/-- a piece and what is behind it, taken back -/
theorem decP_piece {k : Nat} {out cur rest : List Int} (hc : ∀ x ∈ cur, x ≠ 0) (hl : cur.length < 255) (hr : rest ≠ []) :
    decP (k + 1) out (((cur.length : Int) + 1) :: (cur ++ rest)) = decP k (if cur.length < 254 then out ++ cur ++ [0] else out ++ cur) rest := by
  conv => lhs; unfold decP
  have e : ((cur.length : Int) + 1).toNat - 1 = cur.length := by omega
  rw [if_neg (by simp; omega), e, List.take_left, List.drop_left]
  have ha : cur.all (fun x => decide (x ≠ 0)) = true := by simpa using hc
  rw [ha, if_neg (by simp)]
  have hrl : 0 < rest.length := List.length_pos_iff.2 hr
  rw [if_neg (by simp; exact hr)]
  by_cases h : cur.length < 254
  · rw [if_pos (by omega), if_pos h]
  · rw [if_neg (by omega), if_neg h]
theorem decP_last {k : Nat} {out cur : List Int} (hc : ∀ x ∈ cur, x ≠ 0) (hl : cur.length < 254) :
    decP (k + 1) out (((cur.length : Int) + 1) :: cur) = some (out ++ cur) := by
  unfold decP
  have e : ((cur.length : Int) + 1).toNat - 1 = cur.length := by omega
  rw [if_neg (by omega), e, List.take_length]
  have ha : cur.all (fun x => decide (x ≠ 0)) = true := by simpa using hc
  rw [ha, if_neg (by simp), if_pos rfl, if_neg (by omega)]

theorem dec_encP (b : List Int) : ∀ (cur out : List Int) (k : Nat), (∀ x ∈ cur, x ≠ 0) → cur.length < 254 → b.length < k → decP k out (encP cur b) = some (out ++ cur ++ b) := by
  induction b with
  | nil =>
    intro cur out k hc hl hk
    obtain ⟨k, rfl⟩ : ∃ m, k = m + 1 := ⟨k - 1, by simp at hk; omega⟩
    unfold encP
    rw [decP_last hc hl]
    simp
  | cons c r ih =>
    intro cur out k hc hl hk
    obtain ⟨k, rfl⟩ : ∃ m, k = m + 1 := ⟨k - 1, by omega⟩
    simp at hk
    unfold encP
    by_cases h0 : c = 0
    · rw [if_pos h0]
      obtain ⟨n, t, hne⟩ := encP_pos [] r
      rw [List.cons_append, decP_piece hc (by omega) (by rw [hne]; simp), if_pos hl, ih [] _ k (by simp) (by simp) (by omega)]
      simp [h0]
    · rw [if_neg h0]
      have hc' : ∀ x ∈ cur ++ [c], x ≠ 0 := by
        intro x hx
        rcases List.mem_append.1 hx with hx | hx
        · exact hc x hx
        · simp at hx; subst hx; exact h0
      by_cases hf : cur.length + 1 = 254
      · rw [if_pos hf]
        obtain ⟨n, t, hne⟩ := encP_pos [] r
        have e : (255 : Int) = ((cur ++ [c]).length : Int) + 1 := by simp; omega
        rw [List.cons_append, e, decP_piece hc' (by simp; omega) (by rw [hne]; simp), if_neg (by simp; omega), ih [] _ k (by simp) (by simp) (by omega)]
        simp
      · rw [if_neg hf, ih (cur ++ [c]) out (k + 1) hc' (by simp; omega) (by omega)]
        simp
theorem dec_enc (b : List Int) : dec (enc b) = some b := by
  unfold dec enc
  have := encP_length [] b
  rw [dec_encP b [] [] _ (by simp) (by simp) (by simp at this; omega)]
  simp

/-- laying out a piece -/
theorem encP_run : ∀ (p cur r : List Int), (∀ x ∈ p, x ≠ 0) → cur.length + p.length < 254 → encP cur (p ++ r) = encP (cur ++ p) r
  | [], cur, r, _, _ => by simp
  | c :: p, cur, r, hp, hl => by
    simp at hl
    rw [List.cons_append, encP, if_neg (hp c (by simp)), if_neg (by omega), encP_run p (cur ++ [c]) r (fun x hx => hp x (by simp [hx])) (by simp; omega)]
    simp
theorem encP_full (p r : List Int) (hp : ∀ x ∈ p, x ≠ 0) (hl : p.length = 254) : encP [] (p ++ r) = 255 :: p ++ encP [] r := by
  obtain ⟨q, c, rfl⟩ : ∃ q c, p = q ++ [c] := ⟨p.dropLast, p.getLast (by intro e; rw [e] at hl; simp at hl), (List.dropLast_concat_getLast _).symm⟩
  simp at hl
  rw [List.append_assoc, encP_run q [] _ (fun x hx => hp x (by simp [hx])) (by simp; omega)]
  simp only [List.nil_append, List.singleton_append]
  rw [encP, if_neg (hp c (by simp)), if_pos (by omega)]

/-- what was taken back, laid out, is what it was taken from -/
theorem enc_decP : ∀ (k : Nat) (out b x : List Int), (∀ c ∈ b, c ≤ 255) → decP k out b = some x → ∃ y, x = out ++ y ∧ encP [] y = b := by
  intro k
  induction k with
  | zero => intro out b x _ h; simp [decP] at h
  | succ k ih =>
    intro out b x hb h
    cases b with
    | nil => simp [decP] at h
    | cons n b =>
      have hn255 : n ≤ 255 := hb n (by simp)
      have hb' : ∀ c ∈ b, c ≤ 255 := fun c hc => hb c (by simp [hc])
      unfold decP at h
      split at h
      · cases h
      next hn =>
      split at h
      · cases h
      next ha =>
      have hp : ∀ x ∈ b.take (n.toNat - 1), x ≠ 0 := by
        intro x hx e
        subst e
        exact ha (by simpa using hx)
      split at h
      next hl =>
        split at h
        · cases h
        next h255 =>
          cases h
          have hp2 : ∀ x ∈ b, x ≠ 0 := by rw [← hl, List.take_length] at hp; exact hp
          refine ⟨b, rfl, ?_⟩
          have := encP_run b [] [] hp2 (by simp; omega)
          simp only [List.append_nil, List.nil_append] at this
          rw [this, encP]
          congr 1
          omega
      next hl =>
        obtain ⟨y, hx, hy⟩ := ih _ _ _ (fun c hc => hb' c (List.mem_of_mem_drop hc)) h
        have hlen : (b.take (n.toNat - 1)).length = n.toNat - 1 := by rw [List.length_take]; omega
        have hbs : b.take (n.toNat - 1) ++ b.drop (n.toNat - 1) = b := List.take_append_drop _ _
        by_cases h255 : n < 255
        · rw [if_pos h255] at hx
          refine ⟨b.take (n.toNat - 1) ++ 0 :: y, by rw [hx]; simp, ?_⟩
          rw [encP_run _ [] _ hp (by simp; omega), List.nil_append, encP, if_pos rfl, hy, hlen]
          have : ((n.toNat - 1 : Nat) : Int) + 1 = n := by omega
          rw [this, List.cons_append, hbs]
        · rw [if_neg h255] at hx
          refine ⟨b.take (n.toNat - 1) ++ y, by rw [hx]; simp, ?_⟩
          rw [encP_full _ y hp (by omega), hy, List.cons_append, hbs]
          have : n = 255 := by omega
          rw [this]
theorem enc_dec {b x : List Int} (hb : ∀ c ∈ b, c ≤ 255) (h : dec b = some x) : enc x = b := by
  obtain ⟨y, hx, hy⟩ := enc_decP _ _ _ _ hb h
  rw [List.nil_append] at hx
  subst hx
  exact hy
theorem dec_iff {b x : List Int} (hb : ∀ c ∈ b, c ≤ 255) : dec b = some x ↔ enc x = b :=
  ⟨enc_dec hb, fun h => by rw [← h]; exact dec_enc x⟩
theorem enc_inj {a b : List Int} (h : enc a = enc b) : a = b := by
  have h1 := dec_enc a
  rw [h, dec_enc] at h1
  cases h1
  rfl

/-- laid out, there is no zero; all are bytes -/
theorem encP_nonzero (b : List Int) : ∀ cur : List Int, (∀ x ∈ cur, x ≠ 0) → ∀ x ∈ encP cur b, x ≠ 0 := by
  induction b with
  | nil =>
    intro cur hc x hx
    unfold encP at hx
    rcases List.mem_cons.1 hx with rfl | hx
    · omega
    · exact hc x hx
  | cons c r ih =>
    intro cur hc x hx
    unfold encP at hx
    split at hx
    · rw [List.cons_append] at hx
      rcases List.mem_cons.1 hx with rfl | hx
      · omega
      · rcases List.mem_append.1 hx with hx | hx
        · exact hc x hx
        · exact ih [] (by simp) x hx
    next h0 =>
    have hc' : ∀ x ∈ cur ++ [c], x ≠ 0 := by
      intro x hx
      rcases List.mem_append.1 hx with hx | hx
      · exact hc x hx
      · simp at hx; subst hx; exact h0
    split at hx
    · rw [List.cons_append] at hx
      rcases List.mem_cons.1 hx with rfl | hx
      · omega
      · rcases List.mem_append.1 hx with hx | hx
        · exact hc' x hx
        · exact ih [] (by simp) x hx
    · exact ih _ hc' x hx
theorem enc_nonzero (b : List Int) : ∀ x ∈ enc b, x ≠ 0 := encP_nonzero b [] (by simp)
theorem encP_byte (b : List Int) (hb : ∀ x ∈ b, 0 ≤ x ∧ x ≤ 255) : ∀ cur : List Int, (∀ x ∈ cur, 0 ≤ x ∧ x ≤ 255) → cur.length < 254 → ∀ x ∈ encP cur b, 0 ≤ x ∧ x ≤ 255 := by
  induction b with
  | nil =>
    intro cur hc hl x hx
    unfold encP at hx
    rcases List.mem_cons.1 hx with rfl | hx
    · omega
    · exact hc x hx
  | cons c r ih =>
    have hr := ih (fun x hx => hb x (by simp [hx]))
    intro cur hc hl x hx
    have hc' : ∀ x ∈ cur ++ [c], 0 ≤ x ∧ x ≤ 255 := by
      intro x hx
      rcases List.mem_append.1 hx with hx | hx
      · exact hc x hx
      · simp at hx; subst hx; exact hb _ (by simp)
    unfold encP at hx
    split at hx
    · rw [List.cons_append] at hx
      rcases List.mem_cons.1 hx with rfl | hx
      · omega
      · rcases List.mem_append.1 hx with hx | hx
        · exact hc x hx
        · exact hr [] (by simp) (by simp) x hx
    · split at hx
      · rw [List.cons_append] at hx
        rcases List.mem_cons.1 hx with rfl | hx
        · omega
        · rcases List.mem_append.1 hx with hx | hx
          · exact hc' x hx
          · exact hr [] (by simp) (by simp) x hx
      · exact hr _ hc' (by simp; omega) x hx
theorem enc_byte {b : List Int} (hb : ∀ x ∈ b, 0 ≤ x ∧ x ≤ 255) : ∀ x ∈ enc b, 0 ≤ x ∧ x ≤ 255 := encP_byte b hb [] (by simp) (by simp)
/-- how long it is at most -/
theorem encP_long (b : List Int) : ∀ cur : List Int, (encP cur b).length ≤ cur.length + 2 * b.length + 1 := by
  induction b with
  | nil => intro cur; simp [encP]
  | cons c r ih =>
    intro cur
    unfold encP
    split
    · have := ih []; simp at this ⊢; omega
    · split
      · have := ih []; simp at this ⊢; omega
      · have := ih (cur ++ [c]); simp at this ⊢; omega
theorem enc_long (b : List Int) : (enc b).length ≤ 2 * b.length + 1 := by have := encP_long b []; unfold enc; simpa using this

theorem encP_tight (b : List Int) : ∀ cur : List Int, cur.length < 254 → (encP cur b).length ≤ cur.length + b.length + 1 + (cur.length + b.length) / 254 := by
  induction b with
  | nil => intro cur _; simp [encP]
  | cons c r ih =>
    intro cur hl
    unfold encP
    split
    · have := ih [] (by simp); simp at this ⊢; omega
    · split
      · have := ih [] (by simp); simp at this ⊢; omega
      · have := ih (cur ++ [c]) (by simp; omega); simp at this ⊢; omega
theorem enc_tight (b : List Int) : (enc b).length ≤ b.length + 1 + b.length / 254 := by have := encP_tight b [] (by simp); unfold enc; simpa using this
theorem enc_pos (b : List Int) : b.length + 1 ≤ (enc b).length := by have := encP_length [] b; unfold enc; simp at this; omega

end Go.Proofs.Ytekmjhenhgmpgaa.Stuff

/- The program's stuff.Encode: what it makes is what the plain lists say. -/
namespace Go.Proofs.Ytekmjhenhgmpgaa
open Go.RowKit

/-- where the laying out of l stands: out is what is laid, its last piece cur begins at place at' -/
def Stuff.Laid (l : List Int) (k : Nat) (out cur : List Int) (at' : Nat) : Prop :=
  ∃ dn, dn.length = at' ∧ out = dn ++ 0 :: cur ∧ (∀ x ∈ cur, x ≠ 0) ∧ Stuff.enc l = dn ++ Stuff.encP cur (l.drop k)
section
variable {l out cur : List Int} {k at' : Nat}
theorem Stuff.Laid.zero (h : Stuff.Laid l k out cur at') (hd : l.drop k = 0 :: l.drop (k + 1)) : Stuff.Laid l (k + 1) (out.set at' ((out.length : Int) - at') ++ [0]) [] out.length := by
  obtain ⟨dn, rfl, rfl, hc, he⟩ := h
  refine ⟨dn ++ ((cur.length : Int) + 1) :: cur, by simp, ?_, by simp, ?_⟩
  · simp
    omega
  · rw [he, hd, Stuff.encP, if_pos rfl]
    simp
theorem Stuff.Laid.full {c : Int} (h : Stuff.Laid l k out cur at') (hd : l.drop k = c :: l.drop (k + 1)) (hc0 : c ≠ 0) (hf : cur.length + 1 = 254) : Stuff.Laid l (k + 1) ((out ++ [c]).set at' 255 ++ [0]) [] (out.length + 1) := by
  obtain ⟨dn, rfl, rfl, hc, he⟩ := h
  refine ⟨dn ++ 255 :: (cur ++ [c]), by simp; omega, ?_, by simp, ?_⟩
  · simp
  · rw [he, hd, Stuff.encP, if_neg hc0, if_pos hf]
    simp
theorem Stuff.Laid.more {c : Int} (h : Stuff.Laid l k out cur at') (hd : l.drop k = c :: l.drop (k + 1)) (hc0 : c ≠ 0) (hf : cur.length + 1 ≠ 254) : Stuff.Laid l (k + 1) (out ++ [c]) (cur ++ [c]) at' := by
  obtain ⟨dn, e, rfl, hc, he⟩ := h
  refine ⟨dn, e, by simp, ?_, ?_⟩
  · intro x hx
    rcases List.mem_append.1 hx with hx | hx
    · exact hc x hx
    · simp at hx; subst hx; exact hc0
  · rw [he, hd, Stuff.encP, if_neg hc0, if_neg hf]
theorem Stuff.Laid.done (h : Stuff.Laid l l.length out cur at') : out.set at' ((out.length : Int) - at') = Stuff.enc l := by
  obtain ⟨dn, rfl, rfl, hc, he⟩ := h
  rw [he, List.drop_length, Stuff.encP]
  simp
  omega
end

set_option maxRecDepth 100000 in
set_option maxHeartbeats 2000000 in
theorem encode_at (w : World) (ao : Option Addr) (cap : Nat) (l : List Int) (hl : BytesIn w ao l) (hlen : l.length ≤ 70000000000000) :
    Calls Try.prog 91 #[.slice ao l.length cap] w fun e w' => ∃ v, e = .returned v ∧ Bts w' w.heap.size v (Stuff.enc l) ∧ Only NoBlock w w' := by
  go_enter Try.func91, Try.ntmps91
  have hq : ((l.length : Int)).tdiv 254 = ((l.length / 254 : Nat) : Int) := by rw [Int.tdiv_eq_ediv_of_nonneg (by omega)]; omega
  have HQ := Lib.hid hq
  clear hq
  go_wp2_with (refine wpList_make_byte _ rfl _ _ rfl w.heap.size .i64 .i64 (l.length + l.length / 254 + 1) rfl ?_ ?_ ?_ ?_ ?_)
  · show Value.int .i64 ((l.length : Int) + (l.length : Int) / 254 + 1) = _
    congr 1
  · omega
  · omega
  · exact Nat.le_refl _
  intro w1 hb1 hg1
  have ho1 : Only NoBlock w w1 := (Only.refl _ _).grown hg1 (by intro k hk; cases hk)
  go_wp2_with fail
  clear HQ
  go_loopw [3, 4, 17] (fun v3 v4 i wr => ∃ (k : Nat) (out cur : List Int) (at' g cap' : Nat), k ≤ l.length ∧ i = .int .i64 k ∧ v3 = .slice (some ⟨g, 0, none⟩) out.length cap' ∧ v4 = .int .i64 at' ∧
      Bts wr w.heap.size (.slice (some ⟨g, 0, none⟩) out.length cap') out ∧ Only NoBlock w wr ∧ at' + 1 + cur.length ≤ out.length ∧ out.length ≤ at' + 1 + cur.length ∧ out.length ≤ 2 * k + 1 ∧ cur.length ≤ 253 ∧
      RowKit.Hid (Stuff.Laid l k out cur at')) (fun _ _ i _ => l.length - (intOf i).toNat)
  case atStart => exact ⟨0, [0], [], 0, w.heap.size, _, by omega, rfl, rfl, rfl, hb1, ho1, by simp, by simp, by simp, by simp, Lib.hid ⟨[], rfl, rfl, by simp, rfl⟩⟩
  case round =>
    obtain ⟨k, out, cur, at', g, cap', hk, rfl, rfl, rfl, hb, ho, n1, n2, n3, n4, HD⟩ := hrel
    have hz := ho.size
    by_cases hlt : k < l.length
    · obtain ⟨b, off, rfl, hcell, hc0, hc1⟩ := (hl.keeps ho (fun _ _ h => h)).at hlt
      have hdrop : l.drop k = l.getD k 0 :: l.drop (k + 1) := by rw [List.drop_eq_getElem_cons hlt, List.getD_eq_getElem?_getD, List.getElem?_eq_getElem hlt]; rfl
      have HP := Lib.hid hdrop
      clear hdrop
      generalize l.getD k 0 = c at hcell hc0 hc1 HP
      have hfz := hb.free rfl at'
      have hcl : wr.cell? ⟨g, at', none⟩ = some (.int .u8 0) := by
        rw [hb.at rfl at' (by omega)]
        obtain ⟨dn, e1, e2, _⟩ := HD.out
        rw [e2]; subst e1; simp
      have hgl : g < wr.heap.size := World.block_lt_of_cell? wr _ hcl
      have hgb := (World.ownsRow.lt hb g rfl).1
      by_cases hc : c = 0
      · subst hc
        go_wp2_with (first
          | (at_builtin; refine wpList_append_byte _ rfl _ _ rfl w.heap.size _ (out.set at' _) 0 ⟨wr.heap.size, 0, none⟩ 1 rfl ((Bts.write hb rfl at' _).1.keeps ((Only.refl NoBlock _).alloc _) (fun _ _ h => h)) rfl ?_ ?_ ?_ ?_; (exact cell_byte _ _ _ _ (by simp)); (rw [List.length_set]; omega); (simp; omega); intro v' w2 hb2 hg2; obtain ⟨g2, cap2, rfl, _, _, _⟩ := Bts.shape hb2 (by simp)))
        go_roundw
        case rel =>
          refine ⟨k + 1, out.set at' ((out.length : Int) - at') ++ [0], [], out.length, g2, cap2, by omega, by go_num, by simp, rfl, hb2, ?_, by simp, by simp, by simp; omega, by simp, Lib.hid (HD.out.zero HP.out)⟩
          refine (((ho.setCell (p := ⟨g, at', none⟩) (fun h => absurd h (by simp; omega)) _).alloc _).grown hg2 ?_)
          intro i hi hlt'
          have e : some g = some i := hi
          cases e
          omega
        case measure => simp [intOf]; omega
      · by_cases hf : cur.length + 1 = 254
        · have hq : ((out.length : Int) + 1 - (at' : Int) == 255) = true := by simp; omega
          go_wp2_with (first
            | (at_builtin; refine wpList_append_byte _ rfl _ _ rfl w.heap.size _ out c ⟨wr.heap.size, 0, none⟩ 1 rfl (hb.keeps ((Only.refl NoBlock _).alloc _) (fun _ _ h => h)) rfl ?_ ?_ ?_ ?_; (exact cell_byte _ _ _ _ (by simp)); omega; (simp; omega); intro v' w2 hb2 hg2; obtain ⟨g2, cap2, rfl, hgb2, _, _⟩ := Bts.shape hb2 (by simp); rw [List.length_append] at hb2; have hfz2 := Bts.free hb2 (by simp) at'; have hcl2 := Bts.at hb2 (by simp) at' (by simp; omega))
            | (at_builtin; refine wpList_append_byte _ rfl _ _ rfl w.heap.size _ ((out ++ [c]).set at' _) 0 ⟨w2.heap.size, 0, none⟩ 1 rfl ((Bts.write hb2 (by simp) at' _).1.keeps ((Only.refl NoBlock _).alloc _) (fun _ _ h => h)) rfl ?_ ?_ ?_ ?_; (exact cell_byte _ _ _ _ (by simp)); (simp; omega); (have := hg2.size; simp at this ⊢; omega); intro v' w3 hb3 hg3; obtain ⟨g3, cap3, rfl, _, _, _⟩ := Bts.shape hb3 (by simp)))
          go_roundw
          case rel =>
            have hfl := HD.out.full HP.out hc hf
            have e255 : (out.length : Int) + 1 - at' = 255 := by omega
            rw [e255] at hb3
            refine ⟨k + 1, (out ++ [c]).set at' 255 ++ [0], [], out.length + 1, g3, cap3, by omega, by go_num, by simp, by simp, hb3, ?_, by simp, by simp, by simp; omega, by simp, Lib.hid hfl⟩
            refine ((((ho.alloc _).grown hg2 ?_).setCell (p := ⟨g2, at', none⟩) (fun h => absurd h (by simp; omega)) _).alloc _).grown hg3 ?_
            · intro i hi hlt'
              have e : some g = some i := hi
              cases e
              omega
            · intro i hi hlt'
              have e : some g2 = some i := hi
              cases e
              omega
          case measure => simp [intOf]; omega
        · have hq : ((out.length : Int) + 1 - (at' : Int) == 255) = false := by simp; omega
          go_wp2_with (first
            | (at_builtin; refine wpList_append_byte _ rfl _ _ rfl w.heap.size _ out c ⟨wr.heap.size, 0, none⟩ 1 rfl (hb.keeps ((Only.refl NoBlock _).alloc _) (fun _ _ h => h)) rfl ?_ ?_ ?_ ?_; (exact cell_byte _ _ _ _ (by simp)); omega; (simp; omega); intro v' w2 hb2 hg2; obtain ⟨g2, cap2, rfl, hgb2, _, _⟩ := Bts.shape hb2 (by simp); rw [List.length_append] at hb2; have hfz2 := Bts.free hb2 (by simp) at'; have hcl2 := Bts.at hb2 (by simp) at' (by simp; omega)))
          go_roundw
          case rel =>
            refine ⟨k + 1, out ++ [c], cur ++ [c], at', g2, cap2, by omega, by go_num, by simp, rfl, by rw [List.length_append]; exact hb2, ?_, by simp; omega, by simp; omega, by simp; omega, by simp; omega, Lib.hid (HD.out.more HP.out hc hf)⟩
            refine ((ho.alloc _).grown hg2 ?_)
            intro i hi hlt'
            have e : some g = some i := hi
            cases e
            omega
          case measure => simp [intOf]; omega
    · have e : k = l.length := by omega
      subst e
      have hfz := hb.free rfl at'
      have hcl : wr.cell? ⟨g, at', none⟩ = some (.int .u8 (out.getD at' 0)) := hb.at rfl at' (by omega)
      have hgl : g < wr.heap.size := World.block_lt_of_cell? wr _ hcl
      have hgb := (World.ownsRow.lt hb g rfl).1
      go_wp2_with fail
      go_ret
      refine ⟨_, rfl, ?_, ho.setCell (p := ⟨g, at', none⟩) (fun h => absurd h (by simp; omega)) _⟩
      have := (Bts.write hb rfl at' ((out.length : Int) - at')).1
      rw [HD.out.done] at this
      exact this

end Go.Proofs.Ytekmjhenhgmpgaa

/- The program's stuff.Decode: what it takes back is what the plain lists say. -/
namespace Go.Proofs.Ytekmjhenhgmpgaa
open Go.RowKit

theorem BytesIn.drop {w : World} {b off : Nat} {l : List Int} (h : BytesIn w (some ⟨b, off, none⟩) l) (m : Nat) : BytesIn w (some ⟨b, off + m, none⟩) (l.drop m) := by
  refine ⟨fun x hx => h.wf x (List.mem_of_mem_drop hx), by rw [List.length_drop]; have := h.len; omega, fun i hi => ⟨b, off + m, rfl, ?_⟩⟩
  rw [List.length_drop] at hi
  obtain ⟨b', off', e, hc⟩ := h.cell (m + i) (by omega)
  cases e
  rw [Nat.add_assoc, hc]
  simp [List.getD_eq_getElem?_getD, List.getElem?_drop]

def decE (o : Option (List Int)) : Int := match o with | some _ => 0 | none => 2
def decL (o : Option (List Int)) : List Int := o.getD []

set_option maxRecDepth 100000 in
set_option maxHeartbeats 3000000 in
theorem decode_at (w : World) (ao : Option Addr) (cap : Nat) (l : List Int) (hl : BytesIn w ao l) (hcap : l.length ≤ cap) (hcm : cap ≤ maxLen) (hlen : l.length ≤ 70000000000000) :
    Calls Try.prog 83 #[.slice ao l.length cap] w fun e w' => ∃ v, e = .returned (.tuple #[v, .int .i64 (decE (Stuff.dec l))]) ∧ Bts w' w.heap.size v (decL (Stuff.dec l)) ∧ Only NoBlock w w' := by
  unfold maxLen at hcm
  go_enter Try.func83, Try.ntmps83
  go_wp2_with fail
  go_loopw [0, 4] (fun v0 v4 wr => ∃ (ao' : Option Addr) (cap' kf : Nat) (r out : List Int), v0 = .slice ao' r.length cap' ∧ BytesIn w ao' r ∧ r.length ≤ cap' ∧ cap' ≤ 2 ^ 63 - 1 ∧ Bts wr w.heap.size v4 out ∧ Only NoBlock w wr ∧
      r.length + out.length ≤ 70000000000000 ∧ r.length < kf ∧ RowKit.Hid (Stuff.dec l = Stuff.decP kf out r)) (fun v0 _ _ => match v0 with | .slice _ n _ => n | _ => 0)
  case atStart => exact ⟨ao, cap, l.length + 1, l, [], rfl, hl, hcap, hcm, Bts.nil _ _, Only.refl _ _, by simpa using hlen, by omega, Lib.hid rfl⟩
  case round =>
    obtain ⟨ao', cap', kf, r, out, rfl, hb, hrc, hcm', hout, ho, hrl, hkf, HD⟩ := hrel
    have hz := ho.size
    cases r with
    | nil =>
      have hnone : Stuff.dec l = none := by rw [HD.out]; cases kf <;> rfl
      have HN := Lib.hid hnone
      clear hnone
      go_wp2_with fail
      go_ret2
      refine ⟨_, by rw [HN.out]; rfl, by rw [HN.out]; exact Bts.nil _ _, ho⟩
    | cons n t =>
      obtain ⟨b, off, rfl, hcell, hn0, hn1⟩ := (hb.keeps ho (fun _ _ h => h)).at (k := 0) (by simp)
      rw [List.getD_cons_zero] at hcell hn0 hn1
      rw [Nat.add_zero] at hcell
      rw [List.length_cons] at hrc hrl hkf ⊢
      by_cases hbad : n ≤ 0 ∨ (t.length : Int) + 1 < n
      · have hnone : Stuff.dec l = none := by rw [HD.out]; cases kf with | zero => rfl | succ kf => unfold Stuff.decP; rw [if_pos hbad]
        have HN := Lib.hid hnone
        clear hnone HD
        by_cases hz0 : n = 0
        · subst hz0
          go_wp2_with fail
          go_ret2
          refine ⟨_, by rw [HN.out]; rfl, by rw [HN.out]; exact Bts.nil _ _, ho⟩
        · go_wp2_with fail
          go_ret2
          refine ⟨_, by rw [HN.out]; rfl, by rw [HN.out]; exact Bts.nil _ _, ho⟩
      · have hnz : (n == 0) = false := by simp; omega
        have hnb : n ≤ (t.length : Int) + 1 := by omega
        have hnp : 1 ≤ n := by omega
        clear hbad
        obtain ⟨m, rfl⟩ : ∃ m : Nat, n = (m : Int) + 1 := ⟨(n - 1).toNat, by omega⟩
        obtain ⟨kf, rfl⟩ : ∃ m, kf = m + 1 := ⟨kf - 1, by omega⟩
        have hmt : m ≤ t.length := by omega
        by_cases hc1 : cap' = 1
        · subst hc1
          obtain rfl : t = [] := List.length_eq_zero_iff.1 (by omega)
          obtain rfl : m = 0 := by simp at hmt; omega
          have hsome : Stuff.dec l = some out := by
            rw [HD.out]
            simp [Stuff.decP]
          have HN := Lib.hid hsome
          clear hsome HD
          go_wp2_with fail
          go_loopw [4, 27] (fun v4 i w2 => i = .int .i64 0 ∧ w2 = wr ∧ Bts w2 w.heap.size v4 out) (fun _ _ _ => 0)
          case atStart => exact ⟨rfl, rfl, hout⟩
          case round =>
            obtain ⟨rfl, rfl, hout2⟩ := hrel
            go_wp2_with fail
            go_ret2
            refine ⟨_, by rw [HN.out]; rfl, by rw [HN.out]; exact hout2, ho⟩
        · go_wp2_with fail
          have hdm : decide (t.length < m) = false := by simp; omega
          rw [hdm]
          clear hdm
          go_loopw [4, 27] (fun v4 i w2 => ∃ (j : Nat) (p : List Int), i = .int .i64 j ∧ j ≤ m ∧ Bts w2 w.heap.size v4 p ∧ Only NoBlock w w2 ∧ out.length + j ≤ p.length ∧ p.length ≤ out.length + j ∧ RowKit.Hid (p = out ++ t.take j ∧ (t.take j).all (fun x => decide (x ≠ 0)) = true)) (fun _ i _ => m - (intOf i).toNat)
          case atStart => exact ⟨0, out, rfl, by omega, hout, ho, by omega, by omega, Lib.hid (by simp)⟩
          case round =>
            obtain ⟨j, p, rfl, hj, hp, ho2, hl1, hl2, HJ⟩ := hrel
            have hz2 := ho2.size
            by_cases hjn : j < m
            · obtain ⟨b', off', e1, hcj, hc0, hc1'⟩ := (hb.keeps ho2 (fun _ _ h => h)).at (k := j + 1) (by simp; omega)
              cases e1
              rw [List.getD_cons_succ] at hcj hc0 hc1'
              have hcj' : wr.cell? ⟨b, off + 1 + j, none⟩ = some (.int .u8 (t.getD j 0)) := by rw [← hcj]; congr 2; omega
              have htk : t.take (j + 1) = t.take j ++ [t.getD j 0] := by rw [List.take_add_one, List.getElem?_eq_getElem (by omega), List.getD_eq_getElem?_getD, List.getElem?_eq_getElem (by omega)]; rfl
              have htm : t.getD j 0 ∈ t.take m := by
                rw [List.getD_eq_getElem?_getD, List.getElem?_eq_getElem (by omega)]
                exact List.mem_take_iff_getElem.2 ⟨j, by omega, rfl⟩
              have HT := Lib.hid htk
              have HM := Lib.hid htm
              clear htk htm hcj
              generalize t.getD j 0 = c at hcj' hc0 hc1' HT HM
              by_cases hc : c = 0
              · subst hc
                have hnone : Stuff.dec l = none := by
                  rw [HD.out]
                  unfold Stuff.decP
                  rw [if_neg (by omega)]
                  have e : ((m : Int) + 1).toNat - 1 = m := by omega
                  rw [e, if_pos]
                  rw [List.all_eq_false]
                  exact ⟨0, HM.out, by simp⟩
                have HN := Lib.hid hnone
                clear hnone HD
                go_wp2_with fail
                go_ret2
                refine ⟨_, by rw [HN.out]; rfl, by rw [HN.out]; exact Bts.nil _ _, ho2⟩
              · go_wp2_with (first
                  | (at_builtin; refine wpList_append_byte _ rfl _ _ rfl w.heap.size _ p c ⟨wr.heap.size, 0, none⟩ 1 rfl (hp.keeps ((Only.refl NoBlock _).alloc _) (fun _ _ h => h)) rfl ?_ ?_ ?_ ?_; (exact cell_byte _ _ _ _ rfl); omega; (simp; omega); intro v' w3 hb3 hg3))
                go_roundw
                case rel =>
                  refine ⟨j + 1, p ++ [c], ?_, by omega, hb3, (ho2.alloc _).appended (hp.keeps ((Only.refl NoBlock _).alloc _) (fun _ _ h => h)) (Nat.le_refl _) hg3, by simp; omega, by simp; omega, Lib.hid ?_⟩
                  · go_num
                  obtain ⟨q1, q2⟩ := HJ.out
                  rw [HT.out]
                  refine ⟨by rw [q1, List.append_assoc], ?_⟩
                  rw [List.all_append, q2]
                  simpa using hc
                case measure => simp [intOf]; omega
            · obtain rfl : j = m := by omega
              have hlt0 : (((j : Int) + 1).toNat - 1) = j := by omega
              have hstep : Stuff.dec l = (if t.length = j then (if (j : Int) + 1 = 255 then none else some (out ++ t)) else Stuff.decP kf (if (j : Int) + 1 < 255 then p ++ [0] else p) (t.drop j)) := by
                rw [HD.out]
                conv => lhs; unfold Stuff.decP
                obtain ⟨q1, q2⟩ := HJ.out
                rw [if_neg (by omega), hlt0, if_neg (by rw [q2]; simp), q1]
              have HS := Lib.hid hstep
              clear hstep hlt0
              by_cases hend : t.length = j
              · have hp2 : p = out ++ t := by obtain ⟨q1, _⟩ := HJ.out; rw [q1, ← hend, List.take_length]
                by_cases h255 : (j : Int) + 1 = 255
                · have hnone : Stuff.dec l = none := by rw [HS.out, if_pos hend, if_pos h255]
                  have HN := Lib.hid hnone
                  clear hnone hp2 HS HD HJ
                  by_cases hcc : cap' = j + 1
                  all_goals
                    go_wp2_with fail
                    go_ret2
                    refine ⟨_, by rw [HN.out]; rfl, by rw [HN.out]; exact Bts.nil _ _, ho2⟩
                · have hsome : Stuff.dec l = some p := by rw [HS.out, if_pos hend, if_neg h255, hp2]
                  have HN := Lib.hid hsome
                  clear hsome hp2 HS HD HJ
                  by_cases hcc : cap' = j + 1
                  all_goals
                    go_wp2_with fail
                    go_ret2
                    refine ⟨_, by rw [HN.out]; rfl, by rw [HN.out]; exact hp, ho2⟩
              · have hrest : Stuff.dec l = Stuff.decP kf (if (j : Int) + 1 < 255 then p ++ [0] else p) (t.drop j) := by rw [HS.out, if_neg hend]
                have HR := Lib.hid hrest
                clear hrest HS
                have hne : t.length ≠ j := hend
                have hbd := hb.drop (j + 1)
                rw [List.drop_succ_cons] at hbd
                have hcc : ¬ cap' = j + 1 := by omega
                clear HD HJ hcell hout
                go_upto_region 18 with fail
                by_cases h255 : (j : Int) + 1 < 255
                · rw [if_pos h255] at HR
                  go_wp2_with (first
                    | (at_builtin; refine wpList_append_byte _ rfl _ _ rfl w.heap.size _ p 0 ⟨wr.heap.size, 0, none⟩ 1 rfl (hp.keeps ((Only.refl NoBlock _).alloc _) (fun _ _ h => h)) rfl ?_ ?_ ?_ ?_; (exact cell_byte _ _ _ _ rfl); omega; (simp; omega); intro v' w3 hb3 hg3))
                  go_roundw
                  case rel => exact ⟨some ⟨b, off + (j + 1), none⟩, cap' - (j + 1), kf, t.drop j, p ++ [0], by simp, hbd, by simp; omega, by omega, hb3, (ho2.alloc _).appended (hp.keeps ((Only.refl NoBlock _).alloc _) (fun _ _ h => h)) (Nat.le_refl _) hg3, by simp; omega, by simp; omega, HR⟩
                  case measure => simp; omega
                · rw [if_neg h255] at HR
                  have hd5 : decide ((j : Int) + 1 < 255) = false := by simp; omega
                  clear h255
                  go_wp2_with fail
                  go_roundw
                  case rel => exact ⟨some ⟨b, off + (j + 1), none⟩, cap' - (j + 1), kf, t.drop j, p, by simp, hbd, by simp; omega, by omega, hp, ho2, by simp; omega, by simp; omega, HR⟩
                  case measure => simp; omega

end Go.Proofs.Ytekmjhenhgmpgaa

/- Records in a file, in plain lists of numbers: a record's frame, what stands first in numbers, all records that stand there; framed and scanned they are as they were. -/
namespace Go.Proofs.Ytekmjhenhgmpgaa.Wal

def be4 (x : Int) : List Int := [x / 16777216, x / 65536 % 256, x / 256 % 256, x % 256]
theorem be4_byte {x : Int} (h : Crc.U x) : ∀ c ∈ be4 x, 0 ≤ c ∧ c ≤ 255 := by
  obtain ⟨h0, h1⟩ := h
  intro c hc
  simp only [be4, List.mem_cons, List.not_mem_nil, or_false] at hc
  rcases hc with rfl | rfl | rfl | rfl <;> omega
theorem be4_val (x : Int) : (x / 16777216) * 16777216 + (x / 65536 % 256) * 65536 + (x / 256 % 256) * 256 + x % 256 = x := by omega
theorem be4_inj {x y : Int} (h : be4 x = be4 y) : x = y := by
  simp only [be4, List.cons.injEq, and_true] at h
  obtain ⟨h1, h2, h3, h4⟩ := h
  have := be4_val x
  have := be4_val y
  omega
theorem crc_U (l : List Int) : Crc.U (Crc.add 0 l) := by
  unfold Crc.add
  exact Crc.not_U (Crc.sum_u (by constructor <;> decide) l)

def Byte (l : List Int) : Prop := ∀ x ∈ l, 0 ≤ x ∧ x ≤ 255
theorem Byte.append {a b : List Int} (ha : Byte a) (hb : Byte b) : Byte (a ++ b) := by
  intro x hx
  rcases List.mem_append.1 hx with hx | hx
  · exact ha x hx
  · exact hb x hx
theorem Byte.take {a : List Int} (ha : Byte a) (n : Nat) : Byte (a.take n) := fun x hx => ha x (List.mem_of_mem_take hx)
theorem Byte.drop {a : List Int} (ha : Byte a) (n : Nat) : Byte (a.drop n) := fun x hx => ha x (List.mem_of_mem_drop hx)

/-- a record with its sum -/
def raw (l : List Int) : List Int := l ++ be4 (Crc.add 0 l)
def frame (l : List Int) : List Int := Stuff.enc (raw l) ++ [0]
theorem raw_byte {l : List Int} (h : Byte l) : Byte (raw l) := h.append (be4_byte (crc_U l))
theorem raw_length (l : List Int) : (raw l).length = l.length + 4 := by simp [raw, be4]
theorem frame_byte {l : List Int} (h : Byte l) : Byte (frame l) := by
  refine Byte.append (Stuff.enc_byte (raw_byte h)) ?_
  intro x hx
  simp at hx
  omega
theorem frame_long (l : List Int) : (frame l).length ≤ l.length + l.length / 254 + 8 := by
  have := Stuff.enc_tight (raw l)
  have := raw_length l
  simp [frame]
  omega
theorem frame_pos (l : List Int) : l.length + 6 ≤ (frame l).length := by
  have := Stuff.enc_pos (raw l)
  have := raw_length l
  simp [frame]
  omega

/-- what stands behind b's last four -/
def body (b : List Int) : List Int := b.take (b.length - 4)
def tail (b : List Int) : List Int := b.drop (b.length - 4)
/-- the record of taken back bytes, if they are one -/
def rec (b : List Int) : Option (List Int) :=
  if b.length < 4 then none else if tail b = be4 (Crc.add 0 (body b)) ∧ (body b).length ≤ 65536 then some (body b) else none
/-- the record that begins r, and how many bytes it takes -/
def first (r : List Int) : Option (List Int × Nat) :=
  if Stuff.zero r = r.length then none else
  match Stuff.dec (r.take (Stuff.zero r)) with
  | none => none
  | some b => match rec b with
    | none => none
    | some x => some (x, Stuff.zero r + 1)
def scanK : Nat → List Int → List (List Int) × Nat
  | 0, _ => ([], 0)
  | k + 1, r => match first r with
    | none => ([], 0)
    | some (x, n) => (x :: (scanK k (r.drop n)).1, n + (scanK k (r.drop n)).2)
def scan (r : List Int) : List (List Int) × Nat := scanK (r.length + 1) r

theorem body_tail (b : List Int) : body b ++ tail b = b := List.take_append_drop _ _
theorem rec_iff {b x : List Int} : rec b = some x ↔ b = raw x ∧ x.length ≤ 65536 := by
  unfold rec
  constructor
  · intro h
    split at h
    · cases h
    · split at h
      next h4 hc =>
        cases h
        refine ⟨?_, hc.2⟩
        conv => lhs; rw [← body_tail b, hc.1]
        rfl
      · cases h
  · rintro ⟨rfl, hx⟩
    have hl := raw_length x
    have hb : body (raw x) = x := by unfold body; rw [hl, Nat.add_sub_cancel]; unfold raw; exact List.take_left
    have ht : tail (raw x) = be4 (Crc.add 0 x) := by unfold tail; rw [hl, Nat.add_sub_cancel]; unfold raw; exact List.drop_left
    rw [if_neg (by omega), hb, ht, if_pos ⟨rfl, hx⟩]

theorem zero_append {a r : List Int} (h : ∀ x ∈ a, x ≠ 0) : Stuff.zero (a ++ 0 :: r) = a.length := by
  unfold Stuff.zero
  rw [List.takeWhile_append_of_pos (by intro x hx; simpa using h x hx)]
  simp
theorem zero_none {a : List Int} (h : ∀ x ∈ a, x ≠ 0) : Stuff.zero a = a.length := by
  have := zero_append (r := []) h
  unfold Stuff.zero at this ⊢
  rw [List.takeWhile_append_of_pos (by intro x hx; simpa using h x hx)] at this
  have e : ∀ l : List Int, (∀ x ∈ l, x ≠ 0) → l.takeWhile (fun x => decide (x ≠ 0)) = l := by
    intro l
    induction l with
    | nil => intro _; rfl
    | cons c r ih => intro h; rw [List.takeWhile_cons, if_pos (by simpa using h c (by simp)), ih (fun x hx => h x (by simp [hx]))]
  rw [e a h]
theorem take_zero_nonzero (r : List Int) : ∀ x ∈ r.take (Stuff.zero r), x ≠ 0 := by
  intro x hx
  unfold Stuff.zero at hx
  rw [(List.prefix_iff_eq_take.1 (List.takeWhile_prefix (l := r) (fun x => decide (x ≠ 0)))).symm] at hx
  have := List.all_takeWhile (l := r) (p := fun x => decide (x ≠ 0))
  rw [List.all_eq_true] at this
  simpa using this x hx
theorem zero_split {r : List Int} (h : Stuff.zero r < r.length) : r = r.take (Stuff.zero r) ++ 0 :: r.drop (Stuff.zero r + 1) := by
  have h1 : r = r.takeWhile (fun x => decide (x ≠ 0)) ++ r.dropWhile (fun x => decide (x ≠ 0)) := List.takeWhile_append_dropWhile.symm
  have hp : r.take (Stuff.zero r) = r.takeWhile (fun x => decide (x ≠ 0)) := (List.prefix_iff_eq_take.1 (List.takeWhile_prefix _)).symm
  cases hd : r.dropWhile (fun x => decide (x ≠ 0)) with
  | nil =>
    rw [hd, List.append_nil] at h1
    unfold Stuff.zero at h
    rw [← h1] at h
    omega
  | cons c t =>
    have hc : c = 0 := by
      have h2 : (r.dropWhile (fun x => decide (x ≠ 0))).head? = some c := by rw [hd]; rfl
      have := List.head?_dropWhile_not (fun x => decide (x ≠ 0)) r
      rw [h2] at this
      simpa using this
    subst hc
    rw [hd] at h1
    have : r.drop (Stuff.zero r + 1) = t := by
      have hl : Stuff.zero r = (r.takeWhile (fun x => decide (x ≠ 0))).length := rfl
      generalize r.takeWhile (fun x => decide (x ≠ 0)) = p at h1 hl
      rw [hl, h1, List.drop_append]
      simp
    rw [this, hp]
    exact h1

/-- what stands first: a frame -/
theorem first_iff {r x : List Int} {n : Nat} (hr : Byte r) : first r = some (x, n) ↔ x.length ≤ 65536 ∧ n = (frame x).length ∧ ∃ t, r = frame x ++ t := by
  constructor
  · intro h
    unfold first at h
    split at h
    · cases h
    next hz =>
    have hlt : Stuff.zero r < r.length := by have := Stuff.zero_le r; omega
    split at h
    · cases h
    next b hb =>
    split at h
    · cases h
    next y hy =>
    cases h
    obtain ⟨rfl, hx⟩ := rec_iff.1 hy
    have he := Stuff.enc_dec (fun c hc => (hr.take _ c hc).2) hb
    have hs := zero_split hlt
    have hlen : (Stuff.enc (raw x)).length = Stuff.zero r := by rw [he, List.length_take]; omega
    refine ⟨hx, by simp [frame, hlen], r.drop (Stuff.zero r + 1), ?_⟩
    unfold frame
    rw [he, List.append_assoc]
    exact hs
  · rintro ⟨hx, rfl, t, rfl⟩
    unfold first
    have hz : Stuff.zero (frame x ++ t) = (Stuff.enc (raw x)).length := by
      unfold frame
      rw [List.append_assoc]
      exact zero_append (Stuff.enc_nonzero _)
    have ht : (frame x ++ t).take (Stuff.enc (raw x)).length = Stuff.enc (raw x) := by
      unfold frame
      rw [List.append_assoc]
      exact List.take_left
    rw [hz, ht, if_neg (by simp [frame]), Stuff.dec_enc]
    simp only
    rw [rec_iff.2 ⟨rfl, hx⟩]
    simp [frame]
theorem first_frame {x t : List Int} (hx : Byte x) (hl : x.length ≤ 65536) (ht : Byte t) : first (frame x ++ t) = some (x, (frame x).length) :=
  (first_iff ((frame_byte hx).append ht)).2 ⟨hl, rfl, t, rfl⟩
theorem first_cut {x p : List Int} (hp : p <+: frame x) (hl : p.length < (frame x).length) : first p = none := by
  obtain ⟨q, hq⟩ := hp
  have hne : ∀ c ∈ p, c ≠ 0 := by
    have hpre : p <+: Stuff.enc (raw x) := by
      refine List.prefix_of_prefix_length_le (l₃ := frame x) ⟨q, hq⟩ ⟨[0], rfl⟩ ?_
      simp [frame] at hl
      omega
    intro c hc
    exact Stuff.enc_nonzero _ c (hpre.subset hc)
  unfold first
  rw [if_pos (zero_none hne)]
theorem first_nil : first [] = none := rfl
theorem first_pos {r x : List Int} {n : Nat} (h : first r = some (x, n)) : 1 ≤ n ∧ n ≤ r.length := by
  unfold first at h
  split at h
  · cases h
  next hz =>
  have := Stuff.zero_le r
  split at h
  · cases h
  split at h
  · cases h
  cases h
  omega

theorem scanK_more : ∀ (k j : Nat) (r : List Int), r.length < k → r.length < j → scanK k r = scanK j r
  | 0, _, r, h, _ => by omega
  | _ + 1, 0, r, _, h => by omega
  | k + 1, j + 1, r, h1, h2 => by
    unfold scanK
    cases hf : first r with
    | none => rfl
    | some p =>
      obtain ⟨x, n⟩ := p
      have := first_pos hf
      have hd : (r.drop n).length < r.length := by rw [List.length_drop]; omega
      simp only
      rw [scanK_more k j (r.drop n) (by omega) (by omega)]
theorem scan_none {r : List Int} (h : first r = none) : scan r = ([], 0) := by unfold scan scanK; rw [h]
theorem scan_some {r x : List Int} {n : Nat} (h : first r = some (x, n)) : scan r = (x :: (scan (r.drop n)).1, n + (scan (r.drop n)).2) := by
  have := first_pos h
  have hd : (r.drop n).length < r.length := by rw [List.length_drop]; omega
  unfold scan
  conv => lhs; unfold scanK
  rw [h]
  simp only
  rw [scanK_more r.length ((r.drop n).length + 1) (r.drop n) hd (by omega)]

def frames (l : List (List Int)) : List Int := (l.map frame).flatten
theorem frames_nil : frames [] = [] := rfl
theorem frames_cons (x : List Int) (l : List (List Int)) : frames (x :: l) = frame x ++ frames l := rfl
theorem frames_append (a b : List (List Int)) : frames (a ++ b) = frames a ++ frames b := by simp [frames]
theorem frames_snoc (a : List (List Int)) (x : List Int) : frames (a ++ [x]) = frames a ++ frame x := by simp [frames]
/-- texts that may be records -/
def Recs (l : List (List Int)) : Prop := ∀ x ∈ l, Byte x ∧ x.length ≤ 65536
theorem frames_byte {l : List (List Int)} (h : Recs l) : Byte (frames l) := by
  induction l with
  | nil => intro x hx; cases hx
  | cons y r ih => exact (frame_byte (h y (by simp)).1).append (ih (fun x hx => h x (by simp [hx])))

/-- records, one behind the other, and what is no record behind them -/
theorem scan_frames {l : List (List Int)} {t : List Int} (h : Recs l) (ht : Byte t) (hn : first t = none) : scan (frames l ++ t) = (l, (frames l).length) := by
  induction l with
  | nil => rw [frames_nil, List.nil_append, scan_none hn]; rfl
  | cons y r ih =>
    have hy := h y (by simp)
    have hr : Recs r := fun x hx => h x (by simp [hx])
    rw [frames_cons, List.append_assoc, scan_some (first_frame hy.1 hy.2 ((frames_byte hr).append ht)), List.drop_left, ih hr]
    simp
/-- of frames that are cut off the first ones are there -/
theorem frames_take : ∀ (l : List (List Int)) (n : Nat), ∃ k t, k ≤ l.length ∧ (frames l).take n = frames (l.take k) ++ t ∧ (n < (frames l).length ∨ k = l.length) ∧ (k < l.length → t <+: frame (l.getD k []) ∧ t.length < (frame (l.getD k [])).length) ∧ (k = l.length → t = [])
  | [], n => ⟨0, [], by simp, by simp [frames], .inr rfl, by simp, fun _ => rfl⟩
  | y :: r, n => by
    by_cases h : n < (frame y).length
    · refine ⟨0, (frame y).take n, by simp, ?_, .inl ?_, ?_, by simp⟩
      · rw [frames_cons, List.take_append_of_le_length (by omega), List.take_zero, frames_nil, List.nil_append]
      · rw [frames_cons, List.length_append]; omega
      · intro _
        simp only [List.getD_cons_zero]
        exact ⟨List.take_prefix _ _, by rw [List.length_take]; omega⟩
    · obtain ⟨k, t, hk, he, hn, h1, h2⟩ := frames_take r (n - (frame y).length)
      refine ⟨k + 1, t, by simp; omega, ?_, ?_, ?_, ?_⟩
      · rw [frames_cons, List.take_append, he, List.take_of_length_le (by omega), List.take_succ_cons, frames_cons, List.append_assoc]
      · rw [frames_cons, List.length_append]
        rcases hn with hn | hn
        · left; omega
        · right; simp [hn]
      · intro hlt
        rw [List.getD_cons_succ]
        exact h1 (by simp at hlt; omega)
      · intro hlt
        exact h2 (by simp at hlt; omega)
/-- how many whole records there are in the first n bytes -/
theorem scan_cut {l : List (List Int)} (h : Recs l) (n : Nat) : ∃ k, k ≤ l.length ∧ scan ((frames l).take n) = (l.take k, (frames (l.take k)).length) ∧ (frames (l.take k)).length ≤ n ∧ (k < l.length → n < (frames (l.take (k + 1))).length) := by
  obtain ⟨k, t, hk, he, hn, h1, h2⟩ := frames_take l n
  have ht : first t = none := by
    rcases Nat.lt_or_ge k l.length with hlt | hge
    · exact first_cut (h1 hlt).1 (h1 hlt).2
    · rw [h2 (by omega)]; exact first_nil
  have hb : Byte t := by
    have : Byte ((frames l).take n) := (frames_byte h).take n
    rw [he] at this
    exact fun x hx => this x (by simp [hx])
  refine ⟨k, hk, by rw [he, scan_frames (fun x hx => h x (List.mem_of_mem_take hx)) hb ht], ?_, ?_⟩
  · have : ((frames l).take n).length ≤ n := List.length_take_le _ _
    rw [he, List.length_append] at this
    omega
  · intro hlt
    obtain ⟨h3, h4⟩ := h1 hlt
    have e : l.take (k + 1) = l.take k ++ [l.getD k []] := by rw [List.take_add_one, List.getElem?_eq_getElem hlt, List.getD_eq_getElem?_getD, List.getElem?_eq_getElem hlt]; rfl
    rw [e, frames_snoc, List.length_append]
    have hl : ((frames l).take n).length = min n (frames l).length := List.length_take
    rw [he, List.length_append] at hl
    rcases hn with hn | hn
    · omega
    · omega

theorem decP_byte : ∀ (k : Nat) (out b x : List Int), Byte out → Byte b → Stuff.decP k out b = some x → Byte x
  | 0, _, _, _, _, _, h => by simp [Stuff.decP] at h
  | k + 1, out, [], x, _, _, h => by simp [Stuff.decP] at h
  | k + 1, out, n :: b, x, ho, hb, h => by
    have hb' : Byte b := fun c hc => hb c (by simp [hc])
    unfold Stuff.decP at h
    split at h
    · cases h
    split at h
    · cases h
    split at h
    · split at h
      · cases h
      · cases h; exact ho.append hb'
    · refine decP_byte k _ _ x ?_ (hb'.drop _) h
      split
      · exact (ho.append (hb'.take _)).append (by intro c hc; simp at hc; omega)
      · exact ho.append (hb'.take _)
theorem dec_byte {b x : List Int} (hb : Byte b) (h : Stuff.dec b = some x) : Byte x := decP_byte _ [] b x (by intro c hc; cases hc) hb h

/-- the records of anything -/
theorem scan_sound {r : List Int} (hr : Byte r) : ∃ t, r = frames (scan r).1 ++ t ∧ (scan r).2 = (frames (scan r).1).length ∧ first t = none ∧ Recs (scan r).1 ∧ Byte t := by
  have : ∀ (k : Nat) (r : List Int), r.length < k → Byte r → ∃ t, r = frames (scan r).1 ++ t ∧ (scan r).2 = (frames (scan r).1).length ∧ first t = none ∧ Recs (scan r).1 ∧ Byte t := by
    intro k
    induction k with
    | zero => intro r h; omega
    | succ k ih =>
      intro r h hr
      cases hf : first r with
      | none => rw [scan_none hf]; exact ⟨r, rfl, rfl, hf, (by intro x hx; cases hx), hr⟩
      | some p =>
        obtain ⟨x, n⟩ := p
        have hp := first_pos hf
        obtain ⟨hx, hn, t, ht⟩ := (first_iff hr).1 hf
        have hd : r.drop n = t := by rw [ht, hn, List.drop_left]
        obtain ⟨u, h1, h2, h3, h4, h5⟩ := ih (r.drop n) (by rw [List.length_drop]; omega) (hr.drop n)
        rw [scan_some hf]
        have hxb : Byte x := by
          have h6 : Byte (frame x) := by rw [ht] at hr; exact fun c hc => hr c (by simp [hc])
          have h7 : Byte (Stuff.enc (raw x)) := fun c hc => h6 c (by simp [frame, hc])
          have h8 := Stuff.dec_enc (raw x)
          have h9 : Byte (raw x) := dec_byte h7 h8
          exact fun c hc => h9 c (by simp [raw, hc])
        refine ⟨u, ?_, ?_, h3, ?_, h5⟩
        · simp only
          rw [frames_cons, List.append_assoc, ← h1, hd]
          exact ht
        · simp only
          rw [frames_cons, List.length_append, h2, hn]
        · intro y hy
          rcases List.mem_cons.1 hy with rfl | hy
          · exact ⟨hxb, hx⟩
          · exact h4 y hy
  exact this _ r (Nat.lt_succ_self _) hr
end Go.Proofs.Ytekmjhenhgmpgaa.Wal

/- The program's wal.Frame: what it makes is what the plain lists say. -/
namespace Go.Proofs.Ytekmjhenhgmpgaa
open Go.RowKit

theorem four_cells (w : World) (x : Int) (t : TypeId) (n : Nat) (hn : n = w.heap.size) : ∀ j u, ((Wal.be4 x).map (Value.int .u8))[j]? = some u →
    (w.alloc (.cells #[.int .u8 (x / 16777216), .int .u8 (x / 65536 % 256), .int .u8 (x / 256 % 256), .int .u8 (x % 256)] t)).cell? ((⟨n, 0, none⟩ : Addr).add j) = some u := by
  subst hn
  intro j u h
  rw [Addr.add_lit, Nat.zero_add, (Blk.made w _ _).cell j, ← h, ← List.getElem?_toArray]
  rfl

set_option maxHeartbeats 1000000 in
theorem frame_at (w : World) (s : ByteArray) (hs : s.size ≤ 1000000000) :
    Calls Try.prog 75 #[.string s] w fun e w' => e = .returned (.string (textOf (Wal.frame (nums s)))) ∧ Only NoBlock w w' := by
  have hl : (nums s).length ≤ 1000000000 := by rw [nums_length]; exact hs
  have hr := Wal.raw_length (nums s)
  have HR := Lib.hid hr
  have hr' : (Wal.raw (nums s)).length ≤ 1000000004 := by omega
  have hel := Stuff.enc_long (Wal.raw (nums s))
  clear hr
  have hx := Wal.crc_U (nums s)
  have hbe := Wal.be4_byte hx
  obtain ⟨hx0, hx1⟩ := hx
  go_enter Try.func75, Try.ntmps75
  go_wp2_with (first
    | (refine wpList_conv_bytes _ rfl _ _ rfl Cv.u_string Cv.u_byte s rfl (by unfold maxLen; omega) ?_; intro g1 cap1 w1 hc1 hg1 ho1))
  refine (crc_sum_at w1 _ _ (nums s) hc1.read).mono ?_
  rintro e w2 ⟨rfl, rfl⟩
  go_wp2_with (first
    | (refine wpList_conv_bytes _ rfl _ _ rfl Cv.u_string Cv.u_byte s rfl (by unfold maxLen; omega) ?_; intro g2 cap2 w2 hc2 hg2 ho2)
    | (at_builtin; refine wpList_append_conv _ rfl _ _ rfl g2 cap2 _ (nums s) rfl rfl (hc2.keeps ((Only.refl NoBlock _).alloc _) (fun h => h)) ⟨w2.heap.size, 0, none⟩ 4 4 (Wal.be4 (Crc.add 0 (nums s))) rfl rfl (four_cells _ _ _ _ rfl) hbe (by omega) (Wal.raw (nums s)) rfl ?_; intro ao cap3 w3 hb3 ho3 hc3 hcm3))
  refine (encode_at w3 _ _ (Wal.raw (nums s)) hb3 (by omega)).mono ?_
  rintro e w4 ⟨v, rfl, hb4, ho4⟩
  go_wp2_with (first
    | (at_builtin; refine wpList_append_byte _ rfl _ _ rfl w3.heap.size v (Stuff.enc (Wal.raw (nums s))) 0 ⟨w4.heap.size, 0, none⟩ 1 rfl (hb4.keeps ((Only.refl NoBlock _).alloc _) (fun _ _ h => h)) rfl (cell_byte _ _ _ _ rfl) (by omega) (by have := ho4.size; simp; omega) ?_; intro v' w5 hb5 hg5; obtain ⟨g5, cap5, rfl, _, _, _⟩ := Bts.shape hb5 (by simp))
    | (refine wpList_conv_text _ rfl _ _ rfl Cv.u_string Cv.u_byte _ _ _ (Wal.frame (nums s)) rfl rfl (Bts.read hb5 (Wal.frame_byte (nums_byte s))) ?_))
  go_ret
  have h3 : Only NoBlock w w3 := ((ho1.trans ho2).alloc _).andThen ho3 (fun i hi e => by have := ho1.size; omega)
  exact ⟨rfl, ((h3.trans ho4).alloc _).appended (hb4.keeps ((Only.refl NoBlock _).alloc _) (fun _ _ h => h)) h3.size hg5⟩
end Go.Proofs.Ytekmjhenhgmpgaa

/- Rows of texts: of a call's own, or read. -/
namespace Go.Proofs.Ytekmjhenhgmpgaa
open Go.RowKit

namespace St
theorem u_strings : Try.prog.underlying 22 = some (.slice 9) := by kernel_rfl
theorem info : (Try.prog.info? 9).map (fun i => (i.zero, i.size, i.bytes)) = some (some (.string ByteArray.empty), 1, 16) := by kernel_rfl
end St

/-- a row of texts of the call's own -/
def Strs (w : World) (base : Nat) (v : Value) (l : List ByteArray) : Prop := w.ownsRow base 9 1 v l.length (l.map Value.string)

/-- a row of texts that is read -/
structure StrsIn (w : World) (ao : Option Addr) (l : List ByteArray) : Prop where
  len : l.length ≤ maxLen
  cell : ∀ i, i < l.length → ∃ b off, ao = some ⟨b, off, none⟩ ∧ w.cell? ⟨b, off + i, none⟩ = some (.string (l.getD i ByteArray.empty))

section
variable {w w' : World} {base : Nat} {v : Value} {l : List ByteArray}
theorem StrsIn.keeps {S : Nat → Prop} {ao : Option Addr} (h : StrsIn w ao l) (ho : Only S w w') (hs : ∀ a, ao = some a → ¬ S a.block) : StrsIn w' ao l :=
  ⟨h.len, fun i hi => by
    obtain ⟨b, off, e, hc⟩ := h.cell i hi
    refine ⟨b, off, e, ?_⟩
    have hlt : b < w.heap.size := World.block_lt_of_cell? w _ hc
    have hb := ho.block b hlt (hs ⟨b, off, none⟩ e)
    rw [← hc]
    simp [World.cell?, hb]⟩
theorem Strs.keeps {S : Nat → Prop} (h : Strs w base v l) (ho : Only S w w') (hs : ∀ k, v.ownBlock = some k → ¬ S k) : Strs w' base v l := row_keeps h ho hs
theorem Strs.lower {b' : Nat} (h : Strs w base v l) (hb : b' ≤ base) : Strs w b' v l := by
  obtain ⟨h1, h2⟩ := h
  refine ⟨h1, ?_⟩
  rcases h2 with h2 | ⟨g, cap, cur, rfl, hg, r⟩
  · exact .inl h2
  · exact .inr ⟨g, cap, cur, rfl, Nat.le_trans hb hg, r⟩
theorem Strs.keeps2 {S : Nat → Prop} (h : Strs w base v l) (ho : Only S w w') (hs : ∀ k, S k → k < base) : Strs w' base v l :=
  h.keeps ho (fun k hk hS => by have := (World.ownsRow.lt h k hk).1; have := hs k hS; omega)
theorem Strs.nil (w : World) (base : Nat) : Strs w base (.slice none 0 0) [] := World.ownsRow_nil _ _ _ _
theorem Strs.shape (h : Strs w base v l) : ∃ ao cap, v = .slice ao l.length cap := by
  rcases h.2 with ⟨h1, h0⟩ | ⟨g, cap, cur, rfl, hb, _, hn, hm, _⟩
  · exact ⟨none, 0, by rw [h1, h0]⟩
  · exact ⟨_, cap, rfl⟩
theorem Strs.read {ao : Option Addr} {cap : Nat} (h : Strs w base (.slice ao l.length cap) l) : StrsIn w ao l ∧ l.length ≤ cap ∧ cap ≤ maxLen := by
  rcases h.2 with ⟨h1, h0⟩ | ⟨g, cap', cur, h1, hb, hg, hn, hm, _, ht⟩
  · simp only [Value.slice.injEq] at h1
    exact ⟨⟨by unfold maxLen; omega, fun i hi => by omega⟩, by omega, by rw [h1.2.2]; unfold maxLen; omega⟩
  · simp only [Value.slice.injEq] at h1
    obtain ⟨rfl, _, rfl⟩ := h1
    refine ⟨⟨by omega, fun i hi => ⟨g, 0, rfl, ?_⟩⟩, hn, hm⟩
    rw [Nat.zero_add]
    have := World.ownsRow.cellAt h i (by simpa using hi)
    rw [this, List.getElem?_map, List.getElem?_eq_getElem hi]
    simp [List.getD, hi]
theorem Strs.isIn (h : Strs w base v l) : ∃ ao cap, v = .slice ao l.length cap ∧ StrsIn w ao l ∧ l.length ≤ cap ∧ cap ≤ maxLen := by
  obtain ⟨ao, cap, rfl⟩ := h.shape
  exact ⟨ao, cap, rfl, h.read⟩
theorem StrsIn.at {ao : Option Addr} (h : StrsIn w ao l) {k : Nat} (hk : k < l.length) : ∃ b off, ao = some ⟨b, off, none⟩ ∧ w.cell? ⟨b, off + k, none⟩ = some (.string (l.getD k ByteArray.empty)) := h.cell k hk
theorem StrsIn.take {ao : Option Addr} (h : StrsIn w ao l) (n : Nat) : StrsIn w ao (l.take n) :=
  ⟨by have := h.len; rw [List.length_take]; omega, fun i hi => by
    rw [List.length_take] at hi
    obtain ⟨b, off, e, hc⟩ := h.cell i (by omega)
    refine ⟨b, off, e, ?_⟩
    rw [hc, List.getD_eq_getElem?_getD, List.getD_eq_getElem?_getD, List.getElem?_take, if_pos (by omega)]⟩
theorem StrsIn.none (w : World) : StrsIn w none [] := ⟨by unfold maxLen; decide, fun i hi => by simp at hi⟩
theorem cell_str (w : World) (s : ByteArray) (t : TypeId) (n : Nat) (hn : n = w.heap.size) : (w.alloc (.cells #[.string s] t)).cell? ⟨n, 0, none⟩ = some (.string s) := by
  subst hn
  rw [(Blk.made w _ _).cell]; rfl
end

section
variable {ops : Array Oper} {rest : List Oper} {o : Oper} {a : Act} {Q : Exit → Act → World → Prop}
theorem wpList_append_str (w : World) (hgd : o.guard = none) (s x : Operand) (ho : o.op = .call { callee := .builtin .append, args := #[s, x], argTypes := #[22, 22] })
    (base : Nat) (v : Value) (l : List ByteArray) (c : ByteArray) (ad : Addr) (n : Nat) (hs : a.eval s = v) (hown : Strs w base v l) (hx : a.eval x = .slice (some ad) 1 n) (hc : w.cell? ad = some (.string c))
    (hlen : l.length + 1 ≤ 8796093022208) (hbase : base ≤ w.heap.size)
    (h : ∀ v' w', Strs w' base v' (l ++ [c]) → w.grownBy w' v.ownBlock → wpList Try.prog ops Q rest (a.put o.dst v') w') : wpList Try.prog ops Q (o :: rest) a w := by
  obtain ⟨i, hi, hz, hsz, hby⟩ := info_parts St.info
  refine wpList_append_own w hgd s x _ ho base 9 i (.string ByteArray.empty) 1 16 St.u_strings hi hz hsz hby rfl (by decide) v l.length _ hs hown ad 1 n [.string c] hx rfl ?_ ?_ ?_ ?_ hbase ?_
  · intro j u hj
    cases j with
    | zero =>
      cases hj
      have : ad.add 0 = ad := by unfold Addr.add; obtain ⟨b, off, sp⟩ := ad; cases sp <;> rfl
      rw [this]; exact hc
    | succ j => cases hj
  · simp [Value.oneCell']
  · unfold maxLen; omega
  · omega
  · intro v' w' h1 h2 _
    refine h v' w' ?_ h2
    unfold Strs
    simpa using h1
/-- 'append' of a row of texts -/
theorem wpList_append_strs (w : World) (hgd : o.guard = none) (s x : Operand) (ho : o.op = .call { callee := .builtin .append, args := #[s, x], argTypes := #[22, 22] })
    (base : Nat) (v : Value) (l m : List ByteArray) (ad : Addr) (k n : Nat) (hs : a.eval s = v) (hown : Strs w base v l) (hx : a.eval x = .slice (some ad) k n) (hk : k = m.length) (hm : StrsIn w (some ad) m)
    (hlen : l.length + m.length ≤ 8796093022208) (hbase : base ≤ w.heap.size)
    (h : ∀ v' w', Strs w' base v' (l ++ m) → w.grownBy w' v.ownBlock → wpList Try.prog ops Q rest (a.put o.dst v') w') : wpList Try.prog ops Q (o :: rest) a w := by
  subst hk
  obtain ⟨i, hi, hz, hsz, hby⟩ := info_parts St.info
  refine wpList_append_own w hgd s x _ ho base 9 i (.string ByteArray.empty) 1 16 St.u_strings hi hz hsz hby rfl (by decide) v l.length _ hs hown ad m.length n (m.map Value.string) hx (by simp) ?_ ?_ ?_ ?_ hbase ?_
  · intro j u hj
    have hj' : j < m.length := by have := (List.getElem?_eq_some_iff.1 hj).1; simpa using this
    obtain ⟨b, off, e, hc⟩ := hm.cell j hj'
    cases e
    rw [List.getElem?_map, List.getElem?_eq_getElem hj'] at hj
    cases hj
    rw [Addr.add_lit, hc, List.getD_eq_getElem?_getD, List.getElem?_eq_getElem hj']
    rfl
  · intro u hu
    obtain ⟨x, _, rfl⟩ := List.mem_map.1 hu
    rfl
  · unfold maxLen; omega
  · omega
  · intro v' w' h1 h2 _
    refine h v' w' ?_ h2
    unfold Strs
    simpa using h1
end

end Go.Proofs.Ytekmjhenhgmpgaa

/- The program's wal.Scan: the records that the plain lists say. -/
namespace Go.Proofs.Ytekmjhenhgmpgaa
open Go.RowKit

theorem BytesIn.take {w : World} {ao : Option Addr} {l : List Int} (h : BytesIn w ao l) (n : Nat) : BytesIn w ao (l.take n) :=
  ⟨fun x hx => h.wf x (List.mem_of_mem_take hx), by have := h.len; rw [List.length_take]; omega, fun i hi => by
    rw [List.length_take] at hi
    obtain ⟨b, off, e, hc⟩ := h.cell i (by omega)
    refine ⟨b, off, e, ?_⟩
    rw [hc, List.getD_eq_getElem?_getD, List.getD_eq_getElem?_getD, List.getElem?_take, if_pos (by omega)]⟩

namespace Sc
/-- a place of the scan: done is what stands ahead of it -/
def At (r : List Int) (at' : Nat) (done : List (List Int)) : Prop := Wal.scan r = (done ++ (Wal.scan (r.drop at')).1, at' + (Wal.scan (r.drop at')).2)
theorem At.start (r : List Int) : At r 0 [] := by unfold At; simp
theorem At.stop {r : List Int} {at' : Nat} {done : List (List Int)} (h : At r at' done) (hf : Wal.first (r.drop at') = none) : Wal.scan r = (done, at') := by
  unfold At at h
  rw [Wal.scan_none hf] at h
  simpa using h
theorem At.step {r x : List Int} {at' n : Nat} {done : List (List Int)} (h : At r at' done) (hf : Wal.first (r.drop at') = some (x, n)) : At r (at' + n) (done ++ [x]) := by
  unfold At at h ⊢
  rw [Wal.scan_some hf] at h
  rw [List.drop_drop] at h
  simpa [Nat.add_assoc] using h
/-- no zero in the first n places -/
def Clear (r : List Int) (n : Nat) : Prop := ∀ x ∈ r.take n, x ≠ 0
theorem Clear.start (r : List Int) : Clear r 0 := by intro x hx; simp at hx
theorem Clear.step {r : List Int} {n : Nat} (h : Clear r n) (hn : n < r.length) (hc : r.getD n 0 ≠ 0) : Clear r (n + 1) := by
  intro x hx
  rw [List.take_add_one, List.getElem?_eq_getElem hn] at hx
  rcases List.mem_append.1 hx with hx | hx
  · exact h x hx
  · rw [List.getD_eq_getElem?_getD, List.getElem?_eq_getElem hn] at hc
    simp at hx
    subst hx
    simpa using hc
theorem Clear.full {r : List Int} {n : Nat} (h : Clear r n) (hn : n = r.length) : Wal.first r = none := by
  subst hn
  unfold Clear at h
  rw [List.take_length] at h
  unfold Wal.first
  rw [if_pos (Wal.zero_none h)]
theorem Clear.zero {r : List Int} {n : Nat} (h : Clear r n) (hn : n < r.length) (hc : r.getD n 0 = 0) : Stuff.zero r = n := by
  have e : r = r.take n ++ 0 :: r.drop (n + 1) := by
    have h1 := (List.take_append_drop n r).symm
    rw [List.drop_eq_getElem_cons hn] at h1
    rw [List.getD_eq_getElem?_getD, List.getElem?_eq_getElem hn, Option.getD_some] at hc
    rw [hc] at h1
    exact h1
  conv => lhs; rw [e]
  rw [Wal.zero_append h, List.length_take]
  omega
theorem first_dec {r : List Int} {n : Nat} (hz : Stuff.zero r = n) (hn : n < r.length) : Wal.first r = match Stuff.dec (r.take n) with
    | none => none
    | some b => match Wal.rec b with
      | none => none
      | some x => some (x, n + 1) := by
  subst hz
  unfold Wal.first
  rw [if_neg (by omega)]
  try rfl
theorem or4 {a b c d : Int} (ha0 : 0 ≤ a) (ha : a ≤ 255) (hb0 : 0 ≤ b) (hb : b ≤ 255) (hc0 : 0 ≤ c) (hc : c ≤ 255) (hd0 : 0 ≤ d) (hd : d ≤ 255) :
    bits BinOp.or IntKind.u32 (bits BinOp.or IntKind.u32 (bits BinOp.or IntKind.u32 (a * 16777216) (b * 65536)) (c * 256)) d = a * 16777216 + b * 65536 + c * 256 + d := by
  obtain ⟨a, rfl⟩ := Int.eq_ofNat_of_zero_le ha0
  obtain ⟨b, rfl⟩ := Int.eq_ofNat_of_zero_le hb0
  obtain ⟨c, rfl⟩ := Int.eq_ofNat_of_zero_le hc0
  obtain ⟨d, rfl⟩ := Int.eq_ofNat_of_zero_le hd0
  have or_u : ∀ x y : Nat, x < 4294967296 → y < 4294967296 → bits BinOp.or IntKind.u32 (x : Int) (y : Int) = ((x ||| y : Nat) : Int) := by
    intro x y hx hy
    unfold bits
    simp only [IntKind.wrap_u32]
    show ((BitVec.ofInt 32 (x : Int) ||| BitVec.ofInt 32 (y : Int)).toNat : Int) % 4294967296 = _
    rw [BitVec.toNat_or, BitVec.ofInt_natCast, BitVec.ofInt_natCast, BitVec.toNat_ofNat, BitVec.toNat_ofNat, Nat.mod_eq_of_lt hx, Nat.mod_eq_of_lt hy]
    have := Nat.or_lt_two_pow (n := 32) hx hy
    omega
  have add_or : ∀ (x k y : Nat), y < 2 ^ k → x * 2 ^ k ||| y = x * 2 ^ k + y := by
    intro x k y hy
    have := Nat.shiftLeft_add_eq_or_of_lt hy x
    rw [Nat.shiftLeft_eq] at this
    exact this.symm
  have e1 : ((a : Int) * 16777216) = ((a * 16777216 : Nat) : Int) := by omega
  have e2 : ((b : Int) * 65536) = ((b * 65536 : Nat) : Int) := by omega
  have e3 : ((c : Int) * 256) = ((c * 256 : Nat) : Int) := by omega
  have f1 : a * 16777216 ||| b * 65536 = (a * 256 + b) * 65536 := by
    have := add_or a 24 (b * 65536) (by omega)
    simp only [Nat.reducePow] at this
    rw [this]
    omega
  have f2 : (a * 256 + b) * 65536 ||| c * 256 = ((a * 256 + b) * 256 + c) * 256 := by
    have := add_or (a * 256 + b) 16 (c * 256) (by omega)
    simp only [Nat.reducePow] at this
    rw [this]
    omega
  have f3 : ((a * 256 + b) * 256 + c) * 256 ||| d = ((a * 256 + b) * 256 + c) * 256 + d := by
    have := add_or ((a * 256 + b) * 256 + c) 8 d (by omega)
    simp only [Nat.reducePow] at this
    exact this
  rw [e1, e2, e3, or_u _ _ (by omega) (by omega), f1, or_u _ _ (by omega) (by omega), f2, or_u _ _ (by omega) (by omega), f3]
  omega
theorem rec_code {b : List Int} {m : Nat} {x1 x2 x3 x4 : Int} (hb : b.length = m + 4) (hx : b.getD m 0 = x1 ∧ b.getD (m + 1) 0 = x2 ∧ b.getD (m + 2) 0 = x3 ∧ b.getD (m + 3) 0 = x4)
    (h1 : 0 ≤ x1 ∧ x1 ≤ 255) (h2 : 0 ≤ x2 ∧ x2 ≤ 255) (h3 : 0 ≤ x3 ∧ x3 ≤ 255) (h4 : 0 ≤ x4 ∧ x4 ≤ 255) :
    Wal.rec b = if Crc.add 0 (b.take m) = x1 * 16777216 + x2 * 65536 + x3 * 256 + x4 ∧ m ≤ 65536 then some (b.take m) else none := by
  have hm : b.length - 4 = m := by omega
  have ht : Wal.tail b = [x1, x2, x3, x4] := by
    unfold Wal.tail
    rw [hm]
    obtain ⟨e1, e2, e3, e4⟩ := hx
    refine List.ext_getElem? fun i => ?_
    rw [List.getElem?_drop]
    match i with
    | 0 => show b[m]? = some x1; rw [← e1, List.getD_eq_getElem?_getD, List.getElem?_eq_getElem (by omega)]; rfl
    | 1 => show b[m + 1]? = some x2; rw [← e2, List.getD_eq_getElem?_getD, List.getElem?_eq_getElem (by omega)]; rfl
    | 2 => show b[m + 2]? = some x3; rw [← e3, List.getD_eq_getElem?_getD, List.getElem?_eq_getElem (by omega)]; rfl
    | 3 => show b[m + 3]? = some x4; rw [← e4, List.getD_eq_getElem?_getD, List.getElem?_eq_getElem (by omega)]; rfl
    | n + 4 => rw [List.getElem?_eq_none (by omega)]; rfl
  unfold Wal.rec
  rw [if_neg (by omega), ht]
  have hbd : Wal.body b = b.take m := by unfold Wal.body; rw [hm]
  rw [hbd, List.length_take, hb, show min m (m + 4) = m from by omega]
  obtain ⟨hc0, hc1⟩ := Wal.crc_U (b.take m)
  generalize Crc.add 0 (b.take m) = c at hc0 hc1 ⊢
  have hiff : [x1, x2, x3, x4] = Wal.be4 c ↔ c = x1 * 16777216 + x2 * 65536 + x3 * 256 + x4 := by
    simp only [Wal.be4, List.cons.injEq, and_true]
    constructor
    · rintro ⟨q1, q2, q3, q4⟩; omega
    · intro h; refine ⟨?_, ?_, ?_, ?_⟩ <;> omega
  by_cases h : c = x1 * 16777216 + x2 * 65536 + x3 * 256 + x4 ∧ m ≤ 65536
  · rw [if_pos h, if_pos ⟨hiff.2 h.1, h.2⟩]
  · rw [if_neg h, if_neg (fun g => h ⟨hiff.1 g.1, g.2⟩)]
theorem crc_len (w : World) (ao : Option Addr) (cap n : Nat) (l : List Int) (hl : BytesIn w ao l) (hn : l.length = n) :
    Calls Try.prog 84 #[.slice ao n cap] w fun e w' => e = .returned (.int .u32 (Crc.add 0 l)) ∧ w = w' := by
  subst hn
  exact crc_sum_at w ao cap l hl
end Sc

set_option maxRecDepth 100000 in
set_option maxHeartbeats 3000000 in
theorem scan_at (w : World) (s : ByteArray) (hs : s.size ≤ 1000000000) :
    Calls Try.prog 60 #[.string s] w fun e w' => ∃ v, e = .returned (.tuple #[v, .int .i64 (Wal.scan (nums s)).2]) ∧ Strs w' w.heap.size v ((Wal.scan (nums s)).1.map textOf) ∧ Only NoBlock w w' := by
  have hl : (nums s).length = s.size := nums_length s
  have HL := Lib.hid hl
  clear hl
  go_enter Try.func60, Try.ntmps60
  go_wp2_with fail
  go_step3
  go_wp2_with fail
  go_step3
  go_wp2_with fail
  go_loopg [4, 5] (s.size + 1) (fun gk v4 v5 wr => ∃ (at' : Nat) (done : List (List Int)), at' + gk = s.size + 1 ∧ at' ≤ s.size ∧ done.length ≤ at' ∧ v5 = .int .i64 at' ∧ Strs wr w.heap.size v4 (done.map textOf) ∧ Only NoBlock w wr ∧ RowKit.Hid (Sc.At (nums s) at' done))
  case atStart => exact ⟨0, [], by omega, by omega, by simp, rfl, Strs.nil _ _, Only.refl _ _, Lib.hid (Sc.At.start _)⟩
  case round =>
    obtain ⟨at', done, hgk, ha, hdl, rfl, hrow, ho, HA⟩ := hrel
    have hz := ho.size
    go_wp2_with fail
    go_loopg [6] (s.size + 1) (fun gi v6 wx => ∃ n : Nat, n + gi = s.size + 1 ∧ at' + n ≤ s.size ∧ v6 = .int .i64 n ∧ wx = wr ∧ RowKit.Hid (Sc.Clear ((nums s).drop at') n))
    case atStart => exact ⟨0, by omega, by omega, rfl, rfl, Lib.hid (Sc.Clear.start _)⟩
    case round =>
      obtain ⟨n, hgn, hn, rfl, rfl, HC⟩ := hrel
      by_cases hlt : at' + n < s.size
      · have hg := nums_get s (at' + n) hlt
        have hdr : ((nums s).drop at').getD n 0 = (nums s).getD (at' + n) 0 := by rw [List.getD_eq_getElem?_getD, List.getD_eq_getElem?_getD, List.getElem?_drop]
        have hdl2 : n < ((nums s).drop at').length := by rw [List.length_drop, HL.out]; omega
        by_cases hc : (nums s).getD (at' + n) 0 = 0
        · have hz0 : Stuff.zero ((nums s).drop at') = n := HC.out.zero hdl2 (by rw [hdr]; exact hc)
          have HZ := Lib.hid (Sc.first_dec hz0 hdl2)
          clear hz0 hdr hdl2
          have hb0 : (((s[at' + n]'hlt).toNat : Int) == 0) = true := by rw [← hg, hc]; rfl
          clear hc hg
          go_wp2_with (first
            | (refine wpList_conv_bytes _ rfl _ _ rfl Cv.u_string Cv.u_byte (s.extract at' (at' + n)) rfl ?_ ?_; (simp; unfold maxLen; omega); intro g2 cap2 w2 hc2 hg2 ho2))
          have hne : nums (s.extract at' (at' + n)) = ((nums s).drop at').take n := by rw [nums_extract]; congr 1; omega
          have hnl : (nums (s.extract at' (at' + n))).length = n := by rw [nums_length]; simp; omega
          have HN := Lib.hid hne
          have HM := Lib.hid hnl
          have hnl1 : (nums (s.extract at' (at' + n))).length ≤ n := by omega
          clear hne hnl
          generalize nums (s.extract at' (at' + n)) = q at hc2 HN HM hnl1 ⊢
          refine (decode_at w2 _ _ q hc2.read hc2.1 hc2.2.1 (by omega)).mono ?_
          rintro e w3 ⟨v, rfl, hb3, ho3⟩
          have hz3 := ho3.size
          have hz2 := ho2.size
          cases hdec : Stuff.dec q with
          | none =>
            rw [show decE none = 2 from rfl]
            have hst : Wal.first ((nums s).drop at') = none := by rw [HZ.out, ← HN.out, hdec]
            have HS := Lib.hid (HA.out.stop hst)
            clear hst hdec
            go_wp2_with fail
            try rw [Exit.noGoto_ret]
            go_ret2
            exact ⟨_, by rw [HS.out]; rfl, by rw [HS.out]; exact (hrow.keeps ho2 (fun _ _ h => h)).keeps ho3 (fun _ _ h => h), (ho.trans ho2).trans ho3⟩
          | some b =>
            rw [show decE (some b) = 0 from rfl]
            rw [hdec] at hb3
            replace hb3 : Bts w3 w2.heap.size v b := hb3
            have HD := Lib.hid hdec
            clear hdec
            have hbw : Wal.Byte b := Wal.dec_byte hc2.2.2.1 HD.out
            have hbl : b.length + 1 ≤ n := by
              have h1 := Stuff.enc_dec (fun c hc => (hc2.2.2.1 c hc).2) HD.out
              have h2 := Stuff.enc_pos b
              rw [h1] at h2
              omega
            have hO : Only NoBlock w w3 := (ho.trans ho2).trans ho3
            have hrow3 : Strs w3 w.heap.size u4 (done.map textOf) := (hrow.keeps ho2 (fun _ _ h => h)).keeps ho3 (fun _ _ h => h)
            by_cases hb4 : b.length < 4
            · have hst : Wal.first ((nums s).drop at') = none := by
                rw [HZ.out, ← HN.out, HD.out]
                simp only [Wal.rec, if_pos hb4]
              have HS := Lib.hid (HA.out.stop hst)
              clear hst
              obtain ⟨ao, cap, rfl⟩ := Bts.shape' hb3
              go_wp2_with fail
              try rw [Exit.noGoto_ret]
              go_ret2
              exact ⟨_, by rw [HS.out]; rfl, by rw [HS.out]; exact hrow3, hO⟩
            · obtain ⟨g3, cap, rfl, hg3, hnc, hcm⟩ := Bts.shape hb3 (by omega)
              have hbi := hb3.read hbw
              obtain ⟨m, hm⟩ : ∃ m, b.length = m + 4 := ⟨b.length - 4, by omega⟩
              have h1 := hbi.at (k := m) (by omega)
              have h2 := hbi.at (k := m + 1) (by omega)
              have h3 := hbi.at (k := m + 2) (by omega)
              have h4 := hbi.at (k := m + 3) (by omega)
              obtain ⟨_, _, e1, hc1, hl1, hu1⟩ := h1
              cases e1
              rw [Nat.zero_add] at hc1
              obtain ⟨_, _, e2, hc2', hl2, hu2⟩ := h2
              cases e2
              rw [Nat.zero_add] at hc2'
              obtain ⟨_, _, e3, hc3, hl3, hu3⟩ := h3
              cases e3
              rw [Nat.zero_add] at hc3
              obtain ⟨_, _, e4, hc4, hl4, hu4⟩ := h4
              cases e4
              rw [Nat.zero_add] at hc4
              have HM4 := Lib.hid hm
              have hm1 : m + 4 ≤ b.length := by omega
              rw [hm]
              clear hm hb4
              generalize hx1 : b.getD m 0 = x1 at hc1 hl1 hu1
              generalize hx2 : b.getD (m + 1) 0 = x2 at hc2' hl2 hu2
              generalize hx3 : b.getD (m + 2) 0 = x3 at hc3 hl3 hu3
              generalize hx4 : b.getD (m + 3) 0 = x4 at hc4 hl4 hu4
              have HX := Lib.hid (And.intro hx1 (And.intro hx2 (And.intro hx3 hx4)))
              clear hx1 hx2 hx3 hx4
              go_wp2_with fail
              have hnc' : m + 4 ≤ cap := by omega
              have hrec := Sc.rec_code HM4.out HX.out ⟨hl1, hu1⟩ ⟨hl2, hu2⟩ ⟨hl3, hu3⟩ ⟨hl4, hu4⟩
              have HR := Lib.hid hrec
              clear hrec
              have HO4 := Lib.hid (Sc.or4 hl1 hu1 hl2 hu2 hl3 hu3 hl4 hu4)
              go_quiet (fail)
              clear hc1 hc2' hc3 hc4
              go_wp2_with fail
              rw [HO4.out]
              clear HO4
              generalize x1 * 16777216 + x2 * 65536 + x3 * 256 + x4 = z at HR ⊢
              refine (Sc.crc_len _ _ _ _ (b.take m) ((hbi.keeps ((Only.refl NoBlock _).drewN _) (fun _ _ h => h)).take m) (by rw [List.length_take]; omega)).mono ?_
              rintro e w4 ⟨rfl, rfl⟩
              have hfin : ∀ (hno : ¬ (Crc.add 0 (b.take m) = z ∧ m ≤ 65536)), Wal.scan (nums s) = (done, at') := by
                intro hno
                refine HA.out.stop ?_
                rw [HZ.out, ← HN.out, HD.out]
                simp only
                rw [HR.out, if_neg hno]
              have HF := Lib.hid hfin
              have hgo : ∀ (hyes : Crc.add 0 (b.take m) = z ∧ m ≤ 65536), Sc.At (nums s) (at' + (n + 1)) (done ++ [b.take m]) := by
                intro hyes
                refine HA.out.step ?_
                rw [HZ.out, ← HN.out, HD.out]
                simp only
                rw [HR.out, if_pos hyes]
              have HG := Lib.hid hgo
              clear hfin hgo HR HX
              by_cases hcz : Crc.add 0 (b.take m) = z
              · have hcb : (Crc.add 0 (b.take m) != z) = false := by rw [hcz]; simp
                by_cases hm6 : m ≤ 65536
                · have HY := Lib.hid (HG.out ⟨hcz, hm6⟩)
                  clear HG HF hcz
                  go_wp2_with (first
                    | (refine wpList_conv_text _ rfl _ _ rfl Cv.u_string Cv.u_byte _ m _ (b.take m) rfl ?_ ?_ ?_; (rw [List.length_take]; omega); (exact (hbi.keeps ((Only.refl NoBlock _).drewN _) (fun _ _ h => h)).take m))
                    | (at_builtin; go_loud (refine wpList_append_str _ rfl _ _ rfl w.heap.size _ (done.map textOf) (textOf (b.take m)) ⟨w3.heap.size, 0, none⟩ 1 rfl (hrow3.keeps (((Only.refl NoBlock _).drewN nq).alloc _) (fun _ _ h => h)) rfl (cell_str _ _ _ _ rfl) (by rw [List.length_map]; omega) ?_ ?_); (simp; omega); intro v' w5 hb5 hg5))
                  go_roundg (s.size - (at' + n))
                  case rel =>
                    refine ⟨at' + (n + 1), done ++ [b.take m], by omega, by omega, by simp; omega, by go_num, by rw [List.map_append]; exact hb5, ?_, HY⟩
                    exact ((hO.drewN _).alloc _).appended (hrow3.keeps (((Only.refl NoBlock _).drewN nq).alloc _) (fun _ _ h => h)) (Nat.le_refl _) hg5
                  case measure => omega
                · have HS := Lib.hid (HF.out (by omega))
                  clear HG HF hcz
                  go_wp2_with fail
                  try rw [Exit.noGoto_ret]
                  go_ret2
                  exact ⟨_, by rw [HS.out]; rfl, by rw [HS.out]; exact hrow3.keeps ((Only.refl NoBlock _).drewN _) (fun _ _ h => h), hO.drewN _⟩
              · have hcb : (Crc.add 0 (b.take m) != z) = true := by simpa using hcz
                have HS := Lib.hid (HF.out (fun h => hcz h.1))
                clear HG HF hcz
                go_wp2_with fail
                try rw [Exit.noGoto_ret]
                go_ret2
                exact ⟨_, by rw [HS.out]; rfl, by rw [HS.out]; exact hrow3.keeps ((Only.refl NoBlock _).drewN _) (fun _ _ h => h), hO.drewN _⟩
        · have hcl := HC.out.step hdl2 (by rw [hdr]; exact hc)
          have HC2 := Lib.hid hcl
          clear hcl hdr hdl2
          have hb0 : (((s[at' + n]'hlt).toNat : Int) == 0) = false := by rw [← hg]; simpa using hc
          clear hc hg
          go_wp2_with fail
          go_roundg (gk - 1)
          case rel => exact ⟨n + 1, by omega, by omega, by go_num, rfl, HC2⟩
          case measure => omega
      · have hst : Wal.first ((nums s).drop at') = none := HC.out.full (by rw [List.length_drop, HL.out]; omega)
        have hsc := HA.out.stop hst
        have HS := Lib.hid hsc
        clear hsc hst
        go_wp2_with fail
        try rw [Exit.noGoto_ret]
        go_ret2
        exact ⟨_, by rw [HS.out]; rfl, by rw [HS.out]; exact hrow, ho⟩

end Go.Proofs.Ytekmjhenhgmpgaa

/- A map of files (two texts each) by number 0 to 15, as a function of the number: what looking up, storing, deleting and ranging do to it. Over any program whose type k is int and whose type e is the struct of two texts. -/
namespace Go.Proofs.Ytekmjhenhgmpgaa
open Go.RowKit Go.Maps

abbrev File := ByteArray × ByteArray
def noFile : File := (ByteArray.empty, ByteArray.empty)
def fileV (f : File) : Value := .agg #[.string f.1, .string f.2]
def fileD (f : File) : DataW Unit := .agg [.lit (.string f.1.data.toList), .lit (.string f.2.data.toList)]
def fileR : Value → Option (DataW Unit × List MemPlace)
  | .agg cs => match cs.toList with
    | [.string a, .string b] => some (fileD (a, b), [])
    | _ => none
  | _ => none

theorem ba_ext {a b : ByteArray} (h : a.data.toList = b.data.toList) : a = b := by
  cases a; cases b; simp at h; simpa using h
theorem fileR_mk (f : File) : fileR (fileV f) = some (fileD f, []) := rfl
theorem fileD_inj {f g : File} (h : fileD f = fileD g) : f = g := by
  unfold fileD at h
  simp at h
  obtain ⟨h1, h2⟩ := h
  cases f; cases g
  simp at h1 h2 ⊢
  exact ⟨ba_ext (by simp [h1]), ba_ext (by simp [h2])⟩
theorem fileR_inv {v : Value} {y : DataW Unit × List MemPlace} (h : fileR v = some y) : ∃ f, v = fileV f ∧ y = (fileD f, []) := by
  unfold fileR at h
  split at h
  · rename_i cs
    split at h
    · rename_i a b hc
      refine ⟨(a, b), ?_, by cases h; rfl⟩
      unfold fileV
      congr 1
      cases cs; simpa using hc
    · cases h
  · cases h

/-- files by number -/
abbrev Fs := Int → Option File
def Fs.put (F : Fs) (n : Int) (f : File) : Fs := fun i => if i = n then some f else F i
def Fs.del (F : Fs) (n : Int) : Fs := fun i => if i = n then none else F i

structure Reads (D : DataW Unit) (F : Fs) : Prop where
  keys : ∀ kl, Maps.has D kl = true → ∃ x : Int, kl = .int .i64 x ∧ 0 ≤ x ∧ x < 16
  has : ∀ x : Int, Maps.has D (.int .i64 x) = (F x).isSome
  val : ∀ (x : Int) f, F x = some f → ∀ z, D.atKey (.int .i64 x) z = fileD f

/-- block b is a map that holds just these files -/
def FilesAt (P : Program) (k : TypeId) (w : World) (b : Nat) (F : Fs) : Prop := ∃ D, w.ownsMap P k fileR b 16 D ∧ Reads D F

theorem Reads.range {D : DataW Unit} {F : Fs} (h : Reads D F) {x : Int} {f : File} (hf : F x = some f) : 0 ≤ x ∧ x < 16 := by
  have := h.has x
  rw [hf] at this
  obtain ⟨y, e, h0, h1⟩ := h.keys _ this
  cases e
  exact ⟨h0, h1⟩

theorem wf_small {x : Int} (h0 : 0 ≤ x) (h1 : x < 16) : (Lit.int .i64 x).wf = true := WalkArith.wf_i64 (by omega)

theorem Reads.put {D : DataW Unit} {F : Fs} (h : Reads D F) (hD : IsMap D) {n : Int} (h0 : 0 ≤ n) (h1 : n < 16) (f : File) : Reads (D.put (.int .i64 n) (fileD f)) (F.put n f) := by
  have hk : WideAt.IsKeyLit (.int .i64 n) := trivial
  have hne : ∀ x : Int, x ≠ n → (Lit.int .i64 x) ≠ .int .i64 n := fun x hx e => hx (by cases e; rfl)
  refine ⟨fun kl hkl => ?_, fun x => ?_, fun x g hg z => ?_⟩
  · by_cases e : kl = .int .i64 n
    · exact ⟨n, e, h0, h1⟩
    · rw [has_put_other e] at hkl
      exact h.keys kl hkl
  · unfold Fs.put
    by_cases e : x = n
    · subst e; rw [has_put_same hD hk]; simp
    · rw [has_put_other (hne x e), if_neg e]; exact h.has x
  · unfold Fs.put at hg
    by_cases e : x = n
    · subst e; simp at hg; subst hg; exact atKey_put_same hD hk _ _
    · rw [if_neg e] at hg; rw [atKey_put_other (hne x e)]; exact h.val x g hg z

theorem Reads.del {D : DataW Unit} {F : Fs} (h : Reads D F) (n : Int) : Reads (D.del (.int .i64 n)) (F.del n) := by
  have hne : ∀ x : Int, x ≠ n → (Lit.int .i64 x) ≠ .int .i64 n := fun x hx e => hx (by cases e; rfl)
  refine ⟨fun kl hkl => ?_, fun x => ?_, fun x g hg z => ?_⟩
  · by_cases e : kl = .int .i64 n
    · subst e; rw [has_del_same] at hkl; cases hkl
    · rw [has_del_other e] at hkl
      exact h.keys kl hkl
  · unfold Fs.del
    by_cases e : x = n
    · subst e; rw [has_del_same]; simp
    · rw [has_del_other (hne x e), if_neg e]; exact h.has x
  · unfold Fs.del at hg
    by_cases e : x = n
    · subst e; simp at hg
    · rw [if_neg e] at hg; rw [atKey_del_other (hne x e)]; exact h.val x g hg z

/-! ### at most sixteen -/
theorem few_keys : ∀ (m : Nat) (l : List Int), l.Pairwise (· ≠ ·) → (∀ x ∈ l, 0 ≤ x ∧ x < (m : Int)) → l.length ≤ m
  | 0, l, _, h => by
    cases l with
    | nil => simp
    | cons x r => have := h x (by simp); omega
  | m + 1, l, hp, h => by
    have hf : (l.filter (fun x => x ≠ (m : Int))).length ≤ m := by
      refine few_keys m _ (hp.filter _) (fun x hx => ?_)
      have h1 := List.mem_filter.1 hx
      have h2 := h x h1.1
      have h3 : x ≠ (m : Int) := by simpa using h1.2
      omega
    have hc : l.length ≤ (l.filter (fun x => x ≠ (m : Int))).length + 1 := by
      clear hf h
      induction l with
      | nil => simp
      | cons x r ih =>
        have hx := List.pairwise_cons.1 hp
        by_cases e : x = (m : Int)
        · have hr : r.filter (fun x => x ≠ (m : Int)) = r := by
            rw [List.filter_eq_self]
            intro y hy
            have := hx.1 y hy
            simp
            omega
          rw [List.filter_cons]
          simp only [e, ne_eq, not_true_eq_false, decide_false, Bool.false_eq_true, if_false]
          rw [hr]
          simp
        · have := ih hx.2
          rw [List.filter_cons, if_pos (by simpa using e), List.length_cons, List.length_cons]
          omega
    omega

theorem size_small {D : DataW Unit} (hD : ∃ es, D = .map es ∧ es.Pairwise (fun p q => p.1 ≠ q.1) ∧ ∀ p ∈ es, WideAt.IsKeyLit p.1) (hk : ∀ kl, Maps.has D kl = true → ∃ x : Int, kl = .int .i64 x ∧ 0 ≤ x ∧ x < 16) : Maps.size D ≤ 16 := by
  obtain ⟨es, rfl, hp, hq⟩ := hD
  have hkey : ∀ p ∈ es, ∃ x : Int, p.1 = .int .i64 x ∧ 0 ≤ x ∧ x < 16 := fun p hp' =>
    hk p.1 (by rw [has_eq, List.any_eq_true]; exact ⟨p, hp', WideAt.sameKey_self (hq p hp')⟩)
  let g : Lit × DataW Unit → Int := fun p => match p.1 with | .int _ x => x | _ => 0
  have h1 := few_keys 16 (es.map g) (by
    rw [List.pairwise_map]
    refine List.Pairwise.imp_of_mem ?_ hp
    intro a b ha hb hab e
    obtain ⟨x, hx, _⟩ := hkey a ha
    obtain ⟨y, hy, _⟩ := hkey b hb
    apply hab
    simp only [g, hx, hy] at e
    rw [hx, hy, e]) (by
    intro x hx
    obtain ⟨p, hp', rfl⟩ := List.mem_map.1 hx
    obtain ⟨x, e, h0, h1⟩ := hkey p hp'
    simp only [g, e]
    omega)
  simpa [Maps.size] using h1

/-! ### the map's block -/
section
variable {P : Program} {k t e : TypeId} {w : World} {b : Nat} {F : Fs}

theorem owns_tight {n : Nat} {D : DataW Unit} (h : w.ownsMap P k fileR b n D) (hs : Maps.size D ≤ 16) : w.ownsMap P k fileR b 16 D := by
  obtain ⟨es, clock, hb, Ft, _, rfl⟩ := h
  exact ⟨es, clock, hb, Ft, by simpa [Maps.size, length_sorted] using hs, rfl⟩

theorem FilesAt.made (w : World) (P : Program) (k : TypeId) : FilesAt P k (w.alloc (.map #[] 0)) w.heap.size (fun _ => none) :=
  ⟨.map [], (World.ownsMap_made w P k fileR).mono (by omega), ⟨fun kl h => by simp [Maps.has] at h, fun x => rfl, fun x f h => by cases h⟩⟩

theorem FilesAt.lt (h : FilesAt P k w b F) : b < w.heap.size := by obtain ⟨D, h, _⟩ := h; exact h.lt

theorem FilesAt.keeps {S : Nat → Prop} {w' : World} (h : FilesAt P k w b F) (ho : Only S w w') (hs : ¬ S b) : FilesAt P k w' b F := by
  obtain ⟨D, ⟨es, clock, hb, r⟩, hr⟩ := h
  exact ⟨D, ⟨es, clock, ho.keeps hs hb, r⟩, hr⟩

theorem FilesAt.drew (h : FilesAt P k w b F) : FilesAt P k w.drew b F := h.keeps (S := NoBlock) (Only.refl _ w).drew (fun h => h)

theorem FilesAt.range (h : FilesAt P k w b F) {x : Int} {f : File} (hf : F x = some f) : 0 ≤ x ∧ x < 16 := by obtain ⟨D, _, hr⟩ := h; exact hr.range hf

theorem FilesAt.look (h : FilesAt P k w b F) (K : Keyed P k) (hk : P.underlying k = some (.int .i64)) (ht : P.underlying t = some (.map k e)) (hz : (zeroValue e).run P w = .ok (fileV noFile) w) {n : Int} (hn : (Lit.int .i64 n).wf = true) :
    (Instr.lookup t (.map (some b)) (.int .i64 n) true).run P w = .ok (.tuple #[fileV ((F n).getD noFile), .bool (F n).isSome]) w := by
  obtain ⟨D, hown, hr⟩ := h
  obtain ⟨v, ps, hrun, hv⟩ := hown.look_ok K ht hz (fileR_mk noFile) (keyOf_int_mk hk hn)
  rw [hrun, hr.has n]
  obtain ⟨f, rfl, hf⟩ := fileR_inv hv
  have hf1 : D.atKey (.int .i64 n) (fileD noFile) = fileD f := congrArg Prod.fst hf
  congr 4
  cases hx : F n with
  | none =>
    have : Maps.has D (.int .i64 n) = false := by rw [hr.has n, hx]; rfl
    rw [atKey_of_not_has this] at hf1
    rw [← fileD_inj hf1]; rfl
  | some g =>
    rw [hr.val n g hx] at hf1
    rw [← fileD_inj hf1]; rfl

theorem FilesAt.look1 (h : FilesAt P k w b F) (K : Keyed P k) (hk : P.underlying k = some (.int .i64)) (ht : P.underlying t = some (.map k e)) (hz : (zeroValue e).run P w = .ok (fileV noFile) w) {n : Int} (hn : (Lit.int .i64 n).wf = true) :
    (Instr.lookup t (.map (some b)) (.int .i64 n) false).run P w = .ok (fileV ((F n).getD noFile)) w := by
  obtain ⟨D, hown, hr⟩ := h
  obtain ⟨v, ps, hrun, hv⟩ := hown.lookup K ht hz (fileR_mk noFile) (keyOf_int_mk hk hn)
  rw [hrun]
  obtain ⟨f, rfl, hf⟩ := fileR_inv hv
  have hf1 : D.atKey (.int .i64 n) (fileD noFile) = fileD f := congrArg Prod.fst hf
  congr 2
  cases hx : F n with
  | none =>
    have : Maps.has D (.int .i64 n) = false := by rw [hr.has n, hx]; rfl
    rw [atKey_of_not_has this] at hf1
    rw [← fileD_inj hf1]; rfl
  | some g =>
    rw [hr.val n g hx] at hf1
    rw [← fileD_inj hf1]; rfl

theorem FilesAt.store (h : FilesAt P k w b F) (K : Keyed P k) (hk : P.underlying k = some (.int .i64)) (ht : P.underlying t = some (.map k e)) {n : Int} (h0 : 0 ≤ n) (h1 : n < 16) (f : File) :
    ∃ w', (Instr.mapUpdate t (.map (some b)) (.int .i64 n) (fileV f)).run P w = .ok () w' ∧ FilesAt P k w' b (F.put n f) ∧ w.grownBy w' (some b) := by
  obtain ⟨D, hown, hr⟩ := h
  obtain ⟨w', hrun, hown', ht'⟩ := hown.store K ht (by unfold maxLen; omega) (keyOf_int_mk hk (wf_small h0 h1)) (fileR_mk f)
  have hr' := hr.put hown.isMap h0 h1 f
  exact ⟨w', hrun, ⟨_, owns_tight hown' (size_small (hown'.entries K) hr'.keys), hr'⟩, ht'.grown⟩

theorem FilesAt.drop (h : FilesAt P k w b F) (K : Keyed P k) (hk : P.underlying k = some (.int .i64)) (ht : P.underlying t = some (.map k e)) {n : Int} (hn : (Lit.int .i64 n).wf = true) (ty : TypeId) :
    ∃ w', (Builtin.delete_ #[t, k] ty #[.map (some b), .int .i64 n]).run P w = .ok (.tuple #[]) w' ∧ FilesAt P k w' b (F.del n) ∧ w.grownBy w' (some b) := by
  obtain ⟨D, hown, hr⟩ := h
  obtain ⟨w', hrun, hown', ht'⟩ := hown.drop K ht (keyOf_int_mk hk hn) ty
  exact ⟨w', hrun, ⟨_, hown', hr.del n⟩, ht'.grown⟩

variable {ops : Array Oper} {rest : List Oper} {o : Oper} {a : Act} {Q : Exit → Act → World → Prop}

/-- 'v, ok := files[n]' -/
theorem wpList_look_file (hg : o.guard = none) (m x : Operand) (t : TypeId) (hop : o.op = Op.lookup t m x true) (K : Keyed P k) (hk : P.underlying k = some (.int .i64)) (ht : P.underlying t = some (.map k e)) (hz : ∀ w, (zeroValue e).run P w = .ok (fileV noFile) w)
    (h : FilesAt P k w b F) (hm : a.eval m = .map (some b)) (n : Int) (hx : a.eval x = .int .i64 n) (hn : (Lit.int .i64 n).wf = true) (fa fb : ByteArray) (hf : (F n).getD noFile = (fa, fb)) (there : Bool) (hth : (F n).isSome = there)
    (hK : wpList P ops Q rest (a.put o.dst (.tuple #[.agg #[.string fa, .string fb], .bool there])) w) :
    wpList P ops Q (o :: rest) a w := by
  refine wpList_plain hg fun K' hK' => ?_
  have hrun := h.look K hk ht (hz w) hn
  rw [hf, hth] at hrun
  unfold Oper.wp
  simp [execOp, hop, hm, hx, hrun, Result.andThen]
  exact hK' _ _ hK

/-- 'files[n]' -/
theorem wpList_look_file1 (hg : o.guard = none) (m x : Operand) (t : TypeId) (hop : o.op = Op.lookup t m x false) (K : Keyed P k) (hk : P.underlying k = some (.int .i64)) (ht : P.underlying t = some (.map k e)) (hz : ∀ w, (zeroValue e).run P w = .ok (fileV noFile) w)
    (h : FilesAt P k w b F) (hm : a.eval m = .map (some b)) (n : Int) (hx : a.eval x = .int .i64 n) (hn : (Lit.int .i64 n).wf = true) (fa fb : ByteArray) (hf : (F n).getD noFile = (fa, fb))
    (hK : wpList P ops Q rest (a.put o.dst (.agg #[.string fa, .string fb])) w) :
    wpList P ops Q (o :: rest) a w := by
  refine wpList_plain hg fun K' hK' => ?_
  have hrun := h.look1 K hk ht (hz w) hn
  rw [hf] at hrun
  unfold Oper.wp
  simp [execOp, hop, hm, hx, hrun, Result.andThen]
  exact hK' _ _ hK

/-- 'files[n] = file{fa, fb}' -/
theorem wpList_store_file (hg : o.guard = none) (m x v : Operand) (t : TypeId) (hop : o.op = Op.mapUpdate t m x v) (K : Keyed P k) (hk : P.underlying k = some (.int .i64)) (ht : P.underlying t = some (.map k e))
    (h : FilesAt P k w b F) (hm : a.eval m = .map (some b)) (n : Int) (hx : a.eval x = .int .i64 n) (h0 : 0 ≤ n) (h1 : n < 16) (fa fb : ByteArray) (hv : a.eval v = .agg #[.string fa, .string fb])
    (hK : ∀ w', FilesAt P k w' b (F.put n (fa, fb)) → w.grownBy w' (some b) → wpList P ops Q rest (a.put o.dst undef) w') :
    wpList P ops Q (o :: rest) a w := by
  refine wpList_plain hg fun K' hK' => ?_
  obtain ⟨w', hrun, r1, r2⟩ := h.store K hk ht h0 h1 (fa, fb)
  have hrun' : (Instr.mapUpdate t (.map (some b)) (.int .i64 n) (.agg #[.string fa, .string fb])).run P w = .ok () w' := hrun
  unfold Oper.wp
  simp [execOp, hop, hm, hx, hv, hrun', Result.andThen]
  exact hK' _ _ (hK w' r1 r2)

/-- 'delete(files, n)' -/
theorem wpList_delete_file (hg : o.guard = none) (m x : Operand) (t : TypeId) (hop : o.op = Op.call { callee := Callee.builtin Builtin.delete, args := #[m, x], argTypes := #[t, k] }) (K : Keyed P k) (hk : P.underlying k = some (.int .i64)) (ht : P.underlying t = some (.map k e))
    (h : FilesAt P k w b F) (hm : a.eval m = .map (some b)) (n : Int) (hx : a.eval x = .int .i64 n) (hn : (Lit.int .i64 n).wf = true)
    (hK : ∀ w', FilesAt P k w' b (F.del n) → w.grownBy w' (some b) → wpList P ops Q rest (a.put o.dst (.tuple #[])) w') :
    wpList P ops Q (o :: rest) a w := by
  refine wpList_plain hg fun K' hK' => ?_
  obtain ⟨w', hrun, r1, r2⟩ := h.drop K hk ht hn o.type
  unfold Oper.wp
  simp [execOp, hop, resolve, invoke, builtin, hm, hx, hrun, Result.andThen]
  exact hK' _ _ (hK w' r1 r2)
end

end Go.Proofs.Ytekmjhenhgmpgaa

/- The disk as plain data: its files by number, its room, its fuel, whether it is off; what each call answers and leaves. And a range over the map of its files. -/
namespace Go.Proofs.Ytekmjhenhgmpgaa
open Go.RowKit Go.Maps

def fsz : Option File → Nat
  | none => 0
  | some f => f.1.size + f.2.size
def tot (F : Fs) : Nat → Nat
  | 0 => 0
  | n + 1 => tot F n + fsz (F n)
def Fs.only (F : Fs) (L : Int → Bool) : Fs := fun x => if L x = true then F x else none

theorem tot_same {F G : Fs} : ∀ {n : Nat}, (∀ i : Nat, i < n → F i = G i) → tot F n = tot G n
  | 0, _ => rfl
  | n + 1, h => by unfold tot; rw [tot_same (fun i hi => h i (by omega)), h n (by omega)]
theorem tot_upd {F G : Fs} {x : Nat} : ∀ {n : Nat}, x < n → (∀ i : Nat, i ≠ x → F i = G i) → tot G n + fsz (F x) = tot F n + fsz (G x)
  | 0, h, _ => by omega
  | n + 1, h, he => by
    unfold tot
    by_cases e : x = n
    · subst e
      rw [tot_same (F := G) (G := F) (n := x) (fun i hi => (he i (by omega)).symm)]
      omega
    · have := tot_upd (n := n) (F := F) (G := G) (x := x) (by omega) he
      rw [he n (fun e' => e e'.symm)]
      omega
theorem tot_none : ∀ n, tot (fun _ => none) n = 0
  | 0 => rfl
  | n + 1 => by unfold tot; rw [tot_none n]; rfl
theorem tot_ge {F : Fs} {x : Nat} : ∀ {n : Nat}, x < n → fsz (F x) ≤ tot F n
  | 0, h => by omega
  | n + 1, h => by
    unfold tot
    by_cases e : x = n
    · subst e; omega
    · have := tot_ge (F := F) (x := x) (n := n) (by omega); omega
theorem fsz_le {F : Fs} {x : Int} {f : File} (h0 : 0 ≤ x) (h1 : x < 16) (hf : F x = some f) : f.1.size + f.2.size ≤ tot F 16 := by
  obtain ⟨n, rfl⟩ := Int.eq_ofNat_of_zero_le h0
  have := tot_ge (F := F) (x := n) (n := 16) (by omega)
  rw [hf] at this
  exact this
theorem tot_put {F : Fs} {n : Int} (h0 : 0 ≤ n) (h1 : n < 16) (f : File) : tot (F.put n f) 16 + fsz (F n) = tot F 16 + (f.1.size + f.2.size) := by
  obtain ⟨m, rfl⟩ := Int.eq_ofNat_of_zero_le h0
  have := tot_upd (F := F) (G := F.put m f) (x := m) (n := 16) (by omega) (fun i hi => by unfold Fs.put; rw [if_neg (by omega)])
  rw [show F.put (m : Int) f (m : Int) = some f from by unfold Fs.put; simp] at this
  exact this
theorem tot_del {F : Fs} {n : Int} (h0 : 0 ≤ n) (h1 : n < 16) : tot (F.del n) 16 + fsz (F n) = tot F 16 := by
  obtain ⟨m, rfl⟩ := Int.eq_ofNat_of_zero_le h0
  have := tot_upd (F := F) (G := F.del m) (x := m) (n := 16) (by omega) (fun i hi => by unfold Fs.del; rw [if_neg (by omega)])
  rw [show F.del (m : Int) (m : Int) = none from by unfold Fs.del; simp] at this
  simpa [fsz] using this

def strike (L : Int → Bool) (x : Int) : Int → Bool := fun y => L y && !decide (y = x)
theorem tot_strike {F : Fs} {L : Int → Bool} {x : Int} {f : File} (h0 : 0 ≤ x) (h1 : x < 16) (hf : F x = some f) (hl : L x = true) : tot (F.only (strike L x)) 16 + (f.1.size + f.2.size) = tot (F.only L) 16 := by
  obtain ⟨m, rfl⟩ := Int.eq_ofNat_of_zero_le h0
  have := tot_upd (F := F.only L) (G := F.only (strike L m)) (x := m) (n := 16) (by omega) (fun i hi => by
    unfold Fs.only strike
    rw [show decide ((i : Int) = (m : Int)) = false from by simp; omega]
    simp)
  rw [show F.only (strike L (m : Int)) (m : Int) = none from by unfold Fs.only strike; simp, show F.only L (m : Int) = some f from by unfold Fs.only; rw [if_pos hl, hf]] at this
  simpa [fsz] using this

/-- a range over the map is under way: L says which files are still to come -/
def Going (P : Program) (k : TypeId) (w : World) (b r : Nat) (F : Fs) (L : Int → Bool) (cnt : Nat) : Prop :=
  ∃ D left, w.ranges P k fileR b r 16 D left cnt ∧ Reads D F ∧ (∀ x : Int, left (.int .i64 x) = L x)

section
variable {P : Program} {k t e : TypeId} {w : World} {b r cnt : Nat} {F : Fs} {L : Int → Bool}
theorem Going.files (h : Going P k w b r F L cnt) : FilesAt P k w b F := by obtain ⟨D, left, h, hr, _⟩ := h; exact ⟨D, h.owns, hr⟩
theorem Going.left_eq (h : Going P k w b r F L cnt) : w.rangeLeft b r = cnt := by obtain ⟨D, left, h, hr, _⟩ := h; exact h.left_eq
theorem Going.lt (h : Going P k w b r F L cnt) : r < w.heap.size := by obtain ⟨D, left, h, hr, _⟩ := h; exact h.lt
theorem Going.keeps {S : Nat → Prop} {w' : World} (h : Going P k w b r F L cnt) (ho : Only S w w') (hb : ¬ S b) (hr : ¬ S r) : Going P k w' b r F L cnt := by
  obtain ⟨D, left, ⟨es, clock, since, seen, c0, h1, h2, h3, h4, h5, h6⟩, q⟩ := h
  exact ⟨D, left, ⟨es, clock, since, seen, c0, ho.keeps hb h1, h2, h3, h4, ho.keeps hr h5, h6⟩, q⟩

variable {ops : Array Oper} {rest : List Oper} {o : Oper} {a : Act} {Q : Exit → Act → World → Prop}
/-- 'range files' -/
theorem wpList_range_files (hg : o.guard = none) (m : Operand) (t : TypeId) (hop : o.op = Op.range t m) (K : Keyed P k) (ht : P.underlying t = some (.map k e)) (hm : a.eval m = .map (some b)) (h : FilesAt P k w b F)
    (hK : ∀ w' cnt, Going P k w' b w.heap.size F (fun x => (F x).isSome) cnt → Only NoBlock w w' → w'.heap.size = w.heap.size + 1 → wpList P ops Q rest (a.put o.dst (.pointer (some ⟨w.heap.size, 0, none⟩))) w') :
    wpList P ops Q (o :: rest) a w := by
  obtain ⟨D, hown, hr⟩ := h
  refine wpList_range_own w hg m t hop k e K ht fileR b 16 D hm hown fun w' h1 h2 h3 => ?_
  exact hK w' _ ⟨D, _, h1, hr, fun x => hr.has x⟩ ((Only.of_grown h2).mono (fun i hi => by cases hi)) h3
/-- its step -/
theorem wpList_next_files (hg : o.guard = none) (it : Operand) (hop : o.op = Op.next it false) (K : Keyed P k) (hk : P.underlying k = some (.int .i64)) (hit : a.eval it = .pointer (some ⟨r, 0, none⟩)) (h : Going P k w b r F L cnt)
    (hDone : (∀ x, L x = false) → wpList P ops Q rest (a.put o.dst (.tuple #[.bool false])) w)
    (hMore : ∀ (x : Int) (fa fb : ByteArray) (w' : World) (cnt' : Nat), F x = some (fa, fb) → L x = true → 0 ≤ x → x < 16 → Going P k w' b r F (strike L x) cnt' → cnt' < cnt →
      Only (fun i => i = r) w w' → w'.heap.size = w.heap.size → (Instr.entry (.pointer (some ⟨r, 0, none⟩))).run P w' = .ok (.tuple #[.int .i64 x, .agg #[.string fa, .string fb]]) w' → wpList P ops Q rest (a.put o.dst (.tuple #[.bool true, .int .i64 x, .agg #[.string fa, .string fb]])) w') :
    wpList P ops Q (o :: rest) a w := by
  obtain ⟨D, left, hrg, hr, hl⟩ := h
  refine wpList_next_ranges w hg it hop k K fileR (Value.int .i64) fileV (fun key kl hkey => by obtain ⟨x, rfl, _⟩ := Maps.keyOf_int_inv hk hkey; exact ⟨x, rfl⟩) (fun v y hv => by obtain ⟨c, rfl, _⟩ := fileR_inv hv; exact ⟨c, rfl⟩) b r 16 D left cnt hit hrg (fun _ h0 => hDone (fun x => (hl x) ▸ h0 _)) ?_
  intro x f kl y w' cnt' hkey hlk hf hat hrg' hlt hgr hsz hen
  obtain ⟨x', ex, rfl, hwx⟩ := Maps.keyOf_int_inv hk hkey
  cases ex
  rw [fileR_mk] at hf
  cases hf
  obtain ⟨fa, fb⟩ := f
  have hhas : Maps.has D (.int .i64 x) = true := has_true_of_atKey hat
  obtain ⟨x2, e2, h0, h1⟩ := hr.keys _ hhas
  cases e2
  have hFx : F x = some (fa, fb) := by
    rw [hr.has x] at hhas
    cases hF : F x with
    | none => rw [hF] at hhas; cases hhas
    | some g =>
      have h1 := hr.val x g hF .nil
      rw [hat] at h1
      rw [fileD_inj h1]
  refine hMore x fa fb w' cnt' hFx (hl x ▸ hlk) h0 h1 ⟨D, _, hrg', hr, fun y => ?_⟩ hlt ((Only.of_grown hgr).mono (fun i hi => by cases hi; rfl)) hsz hen
  unfold strike
  rw [hl y]
  congr 1
  by_cases e : y = x
  · subst e; rw [WideAt.sameKey_self (a := .int .i64 y) trivial]; simp
  · rw [sameKey_ne (fun e' => e (by cases e'; rfl))]; simp [e]
end

/-! ### the disk -/
structure DM where
  files : Fs
  room : Int
  fuel : Int
  off : Bool

def DM.used (M : DM) : Nat := tot M.files 16
structure DM.Ok (M : DM) : Prop where
  room0 : 0 ≤ M.room
  room1 : M.room ≤ 1048576
  used : (M.used : Int) ≤ M.room
  fuel0 : -1 ≤ M.fuel
  fuel1 : M.fuel ≤ 9223372036854775807
  keys : ∀ x f, M.files x = some f → 0 ≤ x ∧ x < 16

theorem getD_fsz {o : Option File} {fa fb : ByteArray} (h : o.getD noFile = (fa, fb)) : fsz o = fa.size + fb.size := by
  cases o with
  | none => cases h; rfl
  | some f => cases h; rfl
theorem fsz_all {F : Fs} {n : Int} (h0 : 0 ≤ n) (h1 : n < 16) : fsz (F n) ≤ tot F 16 := by
  obtain ⟨m, rfl⟩ := Int.eq_ofNat_of_zero_le h0
  exact tot_ge (by omega)
theorem DM.Ok.small {M : DM} (_h : M.Ok) {n : Int} {fa fb : ByteArray} (h0 : 0 ≤ n) (h1 : n < 16) (hf : (M.files n).getD noFile = (fa, fb)) : ((fa.size + fb.size : Nat) : Int) ≤ M.used := by
  have := fsz_all (F := M.files) h0 h1
  rw [getD_fsz hf] at this
  unfold DM.used
  omega

def DM.new (room : Int) : DM := ⟨fun _ => none, room, -1, false⟩
def DM.setFuel (M : DM) (n : Int) : DM := { M with fuel := if n < -1 then -1 else n }
/-- is there fuel for a step? what is left -/
def DM.steps (M : DM) : Bool := !M.off && !(M.fuel == 0)
def DM.stepped (M : DM) : DM :=
  if M.off = true then M else if M.fuel = 0 then { M with off := true } else if 0 < M.fuel then { M with fuel := M.fuel - 1 } else M
def DM.appendE (M : DM) (n : Int) (s : ByteArray) : Int :=
  if n < 0 ∨ 16 ≤ n then 1 else if M.off = true then 10 else if M.room < M.used + s.size then 11 else if M.steps = false then 10 else 0
def DM.append (M : DM) (n : Int) (s : ByteArray) : DM :=
  if n < 0 ∨ 16 ≤ n then M else if M.off = true then M else if M.room < M.used + s.size then M else if M.steps = false then M.stepped
  else { M.stepped with files := M.files.put n (((M.files n).getD noFile).1, ((M.files n).getD noFile).2 ++ s) }
def DM.syncE (M : DM) (n : Int) : Int :=
  if M.off = true then 10 else if (M.files n).isSome = false then 12 else if M.steps = false then 10 else 0
def DM.sync (M : DM) (n : Int) : DM :=
  if M.off = true then M else if (M.files n).isSome = false then M else if M.steps = false then M.stepped
  else { M.stepped with files := M.files.put n (((M.files n).getD noFile).1 ++ ((M.files n).getD noFile).2, ByteArray.empty) }
def DM.replaceE (M : DM) (n : Int) (s : ByteArray) : Int :=
  if n < 0 ∨ 16 ≤ n then 1 else if M.off = true then 10 else if M.room + fsz (M.files n) < M.used + s.size then 11 else if M.steps = false then 10 else 0
def DM.replace (M : DM) (n : Int) (s : ByteArray) : DM :=
  if n < 0 ∨ 16 ≤ n then M else if M.off = true then M else if M.room + fsz (M.files n) < M.used + s.size then M else if M.steps = false then M.stepped
  else { M.stepped with files := M.files.put n (s, ByteArray.empty) }
def DM.removeE (M : DM) (n : Int) : Int :=
  if M.off = true then 10 else if (M.files n).isSome = false then 12 else if M.steps = false then 10 else 0
def DM.remove (M : DM) (n : Int) : DM :=
  if M.off = true then M else if (M.files n).isSome = false then M else if M.steps = false then M.stepped
  else { M.stepped with files := M.files.del n }
def DM.readE (M : DM) (n : Int) : Int := if M.off = true then 10 else if (M.files n).isSome = false then 12 else 0
def DM.read (M : DM) (n : Int) : ByteArray :=
  if M.off = true then ByteArray.empty else if (M.files n).isSome = false then ByteArray.empty else ((M.files n).getD noFile).1 ++ ((M.files n).getD noFile).2
/-- what is left of a file, of which k soft bytes are kept at most -/
def leftFile (f : File) (k : Int) : Option File :=
  let j := (max 0 (min k f.2.size)).toNat
  if f.1.size = 0 ∧ j = 0 ∧ f.2.size ≠ 0 then none else some (f.1 ++ f.2.extract 0 j, ByteArray.empty)
def DM.crash (M : DM) (keep : Int → Int) : DM :=
  { files := fun x => match M.files x with | none => none | some f => leftFile f (keep x), room := M.room, fuel := -1, off := false }

end Go.Proofs.Ytekmjhenhgmpgaa

/- The disk of the program: what each of its functions answers, and what it leaves, is what the plain disk says. -/
namespace Go.Proofs.Ytekmjhenhgmpgaa
open Go.RowKit Go.Maps
set_option maxRecDepth 100000

namespace Dk
theorem u_int : Try.prog.underlying 3 = some (.int .i64) := by kernel_rfl
theorem u_map : Try.prog.underlying 83 = some (.map 3 91) := by kernel_rfl
theorem zfile (w : World) : (zeroValue 91).run Try.prog w = .ok (fileV noFile) w := by kernel_rfl
theorem law : Keyed Try.prog 3 := int_keyed u_int
end Dk

/-- block d is a disk, its map block mb, and it is M -/
structure DiskAt (w : World) (d mb : Nat) (M : DM) : Prop where
  blk : Blk w d #[.map (some mb), .int .i64 M.room, .int .i64 M.fuel, .bool M.off] 85
  files : FilesAt Try.prog 3 w mb M.files
  ok : M.Ok

theorem DiskAt.ne {w : World} {d mb : Nat} {M : DM} (h : DiskAt w d mb M) : d ≠ mb := by
  intro e
  obtain ⟨D, ⟨es, clock, hb, _⟩, _⟩ := h.files
  have := h.blk
  unfold Blk at this
  rw [e, hb] at this
  cases this
theorem DiskAt.keeps {S : Nat → Prop} {w w' : World} {d mb : Nat} {M : DM} (h : DiskAt w d mb M) (ho : Only S w w') (h1 : ¬ S d) (h2 : ¬ S mb) : DiskAt w' d mb M :=
  ⟨h.blk.keeps ho h1, h.files.keeps ho h2, h.ok⟩

theorem Blk.one {w : World} {o : Obj} {cs : Array Value} {t : TypeId} (h : o = .cells cs t) : Blk (w.alloc o) w.heap.size cs t := by subst h; exact Blk.made w cs t

theorem DiskAt.drew {w : World} {d mb : Nat} {M : DM} (h : DiskAt w d mb M) : DiskAt w.drew d mb M := ⟨h.blk, h.files, h.ok⟩
theorem DiskAt.room_cell {w : World} {d mb : Nat} {M : DM} (h : DiskAt w d mb M) : w.cell? ⟨d, 1, none⟩ = some (.int .i64 M.room) := by have := h.blk.cell 1; simpa using this
theorem DiskAt.map_cell {w : World} {d mb : Nat} {M : DM} (h : DiskAt w d mb M) : w.cell? ⟨d, 0, none⟩ = some (.map (some mb)) := by have := h.blk.cell 0; simpa using this

theorem new_ok (w : World) (room : Int) (h0 : 0 ≤ room) (h1 : room ≤ 1048576) :
    Calls Try.prog 10 #[.int .i64 room] w fun e w' => e = .returned (.tuple #[.pointer (some ⟨w.heap.size + 1, 0, none⟩), .int .i64 0]) ∧ DiskAt w' (w.heap.size + 1) w.heap.size (DM.new room) ∧ Only NoBlock w w' ∧ w'.heap.size = w.heap.size + 2 := by
  have hmm := @run_makeMap Try.prog
  go_enter Try.func10, Try.ntmps10
  go_wp2
  go_ret2
  have ho : Only NoBlock w (w.alloc (.map #[] 0)) := (Only.refl _ _).alloc _
  refine ⟨rfl, ⟨?_, ?_, ?_⟩, ho.alloc _, by simp⟩
  · have := Blk.made (w.alloc (.map #[] 0)) #[.map (some w.heap.size), .int .i64 room, .int .i64 (-1), .bool false] 85
    simpa [DM.new] using this
  · exact (FilesAt.made w Try.prog 3).keeps (S := NoBlock) ((Only.refl _ _).alloc _) (fun h => h)
  · refine ⟨h0, h1, ?_, by simp [DM.new], by simp [DM.new], fun x f h => by cases h⟩
    unfold DM.new DM.used
    rw [tot_none]; exact h0

theorem new_no (w : World) (room : Int) (h : room < 0 ∨ 1048576 < room) :
    Calls Try.prog 10 #[.int .i64 room] w fun e w' => e = .returned (.tuple #[.pointer none, .int .i64 1]) ∧ w = w' := by
  rcases h with h | h
  · go_enter Try.func10, Try.ntmps10
    go_wp2
    go_ret2
    exact ⟨rfl, rfl⟩
  · have h' : ¬ room < 0 := by omega
    go_enter Try.func10, Try.ntmps10
    go_wp2
    go_ret2
    exact ⟨rfl, rfl⟩

theorem off_at (w : World) (d mb : Nat) (M : DM) (h : DiskAt w d mb M) :
    Calls Try.prog 30 #[.pointer (some ⟨d, 0, none⟩)] w fun e w' => e = .returned (.bool M.off) ∧ w = w' := by
  have c3 := h.blk.cell 3
  simp at c3
  go_enter Try.func30, Try.ntmps30
  go_wp2
  go_ret
  exact ⟨rfl, rfl⟩

theorem off_nil (w : World) :
    Calls Try.prog 30 #[.pointer none] w fun e w' => e = .returned (.bool true) ∧ w = w' := by
  go_enter Try.func30, Try.ntmps30
  go_wp2
  go_ret
  exact ⟨rfl, rfl⟩

theorem fuel_nil (w : World) (n : Int) :
    Calls Try.prog 22 #[.pointer none, .int .i64 n] w fun e w' => e = .returned (.tuple #[]) ∧ w = w' := by
  go_enter Try.func22, Try.ntmps22
  go_wp2
  go_end0
  exact ⟨rfl, rfl⟩

theorem DM.Ok.with {M M' : DM} (h : M.Ok) (hr : M'.room = M.room) (hu : M'.files = M.files) (h0 : -1 ≤ M'.fuel) (h1 : M'.fuel ≤ 9223372036854775807) : M'.Ok :=
  ⟨by rw [hr]; exact h.room0, by rw [hr]; exact h.room1, by unfold DM.used; rw [hr, hu]; exact h.used, h0, h1, by rw [hu]; exact h.keys⟩
theorem Only.one {S : Nat → Prop} {w : World} {d i : Nat} (hd : S d) (v : Value) : Only S w (w.setCell ⟨d, i, none⟩ v) := (Only.refl _ _).setCell (fun _ => hd) v
theorem DiskAt.fueled {w : World} {d mb : Nat} {M : DM} (h : DiskAt w d mb M) (n : Int) (h0 : -1 ≤ n) (h1 : n ≤ 9223372036854775807) : DiskAt (w.setCell ⟨d, 2, none⟩ (.int .i64 n)) d mb { M with fuel := n } :=
  ⟨by have := h.blk.setCell 2 (.int .i64 n); simpa using this, h.files.keeps (S := fun k => k = d) (Only.one (S := fun k => k = d) rfl _) (fun e => h.ne e.symm), h.ok.with rfl rfl h0 h1⟩
theorem DiskAt.down {w : World} {d mb : Nat} {M : DM} (h : DiskAt w d mb M) : DiskAt (w.setCell ⟨d, 3, none⟩ (.bool true)) d mb { M with off := true } :=
  ⟨by have := h.blk.setCell 3 (.bool true); simpa using this, h.files.keeps (S := fun k => k = d) (Only.one (S := fun k => k = d) rfl _) (fun e => h.ne e.symm), h.ok.with rfl rfl h.ok.fuel0 h.ok.fuel1⟩

theorem fuel_at (w : World) (d mb : Nat) (M : DM) (n : Int) (hn : n ≤ 9223372036854775807) (h0 : DiskAt w d mb M) :
    Calls Try.prog 22 #[.pointer (some ⟨d, 0, none⟩), .int .i64 n] w fun e w' => e = .returned (.tuple #[]) ∧ DiskAt w' d mb (M.setFuel n) ∧ Only (fun k => k = d ∨ k = mb) w w' := by
  have c2 := h0.blk.cell 2
  have f2 := h0.blk.free 2
  simp at c2
  go_enter Try.func22, Try.ntmps22
  go_wp2
  all_goals go_end0
  · have hlt : n < -1 := by assumption
    refine ⟨rfl, ?_, Only.one (Or.inl rfl) _⟩
    simpa [DM.setFuel, hlt] using h0.fueled (-1) (by omega) (by omega)
  · have hlt : ¬ n < -1 := by have : -1 ≤ n := by assumption
                              omega
    refine ⟨rfl, ?_, Only.one (Or.inl rfl) _⟩
    simpa [DM.setFuel, hlt] using h0.fueled n (by omega) hn

theorem step_at (w : World) (d mb : Nat) (M : DM) (h : DiskAt w d mb M) :
    Calls Try.prog 32 #[.pointer (some ⟨d, 0, none⟩)] w fun e w' => e = .returned (.bool M.steps) ∧ DiskAt w' d mb M.stepped ∧ Only (fun k => k = d ∨ k = mb) w w' := by
  have c2 := h.blk.cell 2
  have f2 := h.blk.free 2
  have c3 := h.blk.cell 3
  have f3 := h.blk.free 3
  simp at c2 c3
  have hf0 := h.ok.fuel0
  have hf1 := h.ok.fuel1
  cases ho : M.off with
  | true => 
    rw [ho] at c3
    go_enter Try.func32, Try.ntmps32
    go_wp2
    go_ret
    refine ⟨by simp [DM.steps, ho], ?_, Only.refl _ _⟩
    simpa [DM.stepped, ho] using h
  | false =>
    rw [ho] at c3
    go_enter Try.func32, Try.ntmps32
    go_wp2
    all_goals go_ret
    · have hz : M.fuel = 0 := by have : (M.fuel == 0) = true := by assumption
                                 simpa using this
      refine ⟨by simp [DM.steps, ho, hz], ?_, Only.one (Or.inl rfl) _⟩
      simpa [DM.stepped, ho, hz] using h.down
    · have hz : 0 < M.fuel := by assumption
      have hz' : M.fuel ≠ 0 := by omega
      refine ⟨by simp [DM.steps, ho, hz'], ?_, Only.one (Or.inl rfl) _⟩
      simpa [DM.stepped, ho, hz, hz'] using h.fueled (M.fuel - 1) (by omega) (by omega)
    · have hz : M.fuel ≤ 0 := by assumption
      have hz' : M.fuel ≠ 0 := by have : (M.fuel == 0) = false := by assumption
                                  simpa using this
      refine ⟨by simp [DM.steps, ho, hz'], ?_, Only.refl _ _⟩
      have : ¬ 0 < M.fuel := by omega
      simpa [DM.stepped, ho, hz', this] using h

theorem used_nil (w : World) :
    Calls Try.prog 31 #[.pointer none] w fun e w' => e = .returned (.int .i64 0) ∧ w = w' := by
  go_enter Try.func31, Try.ntmps31
  go_wp2
  go_ret
  exact ⟨rfl, rfl⟩

def UsedEnd (M : DM) (d mb : Nat) (w : World) (e : Ending) (w' : World) : Prop := e = .returned (.int .i64 M.used) ∧ DiskAt w' d mb M ∧ Only NoBlock w w'
theorem used_at (w : World) (d mb : Nat) (M : DM) (h : DiskAt w d mb M) :
    Calls Try.prog 31 #[.pointer (some ⟨d, 0, none⟩)] w (UsedEnd M d mb w) := by
  have c0 := h.blk.cell 0
  simp at c0
  go_enter Try.func31, Try.ntmps31
  go_wp2_with (first
    | (at_range; refine wpList_range_files rfl _ _ rfl Dk.law Dk.u_map rfl h.files ?_; intro w0 cnt0 hg0 ho0 hs0)
    | go_in)
  go_frame
  go_loopw [3] (fun s wr => ∃ (L : Int → Bool) (cnt : Nat) (acc : Nat), s = .int .i64 acc ∧ Going Try.prog 3 wr mb w.heap.size M.files L cnt ∧ acc + tot (M.files.only L) 16 = tot M.files 16 ∧ Only NoBlock w wr)
    (fun _ wr => wr.rangeLeft mb w.heap.size)
  case atStart =>
    refine ⟨_, cnt0, 0, rfl, hg0, ?_, ho0⟩
    rw [Nat.zero_add]
    refine tot_same (fun i hi => ?_)
    unfold Fs.only
    cases hx : M.files i <;> simp [hx]
  case round =>
    obtain ⟨L, cnt, acc, rfl, hg, hacc, ho⟩ := hrel
    go_wp2_with (first
      | (at_next; refine wpList_next_files rfl _ rfl Dk.law Dk.u_int rfl hg ?_ ?_)
      | go_in)
    · intro hL
      have ht : tot (M.files.only L) 16 = 0 := by
        rw [tot_same (G := fun _ => none) (fun i _ => by unfold Fs.only; rw [hL]; rfl)]
        exact tot_none 16
      have HE0 : acc = M.used := by unfold DM.used; omega
      have HE := Lib.hid HE0
      clear HE0
      clear hacc ht
      go_wp2
      go_ret
      exact ⟨by rw [← HE.out]; rfl, h.keeps ho (fun h => h) (fun h => h), ho⟩
    · intro x fa fb w1 cnt1 hF hLx hx0 hx1 hg1 hlt ho1 hs1 hen
      have hst := tot_strike hx0 hx1 hF hLx
      have hle := fsz_le hx0 hx1 hF
      have hu := h.ok.used
      have hr1 := h.ok.room1
      unfold DM.used at hu
      have ho2 : Only NoBlock w w1 := ho.andThen ho1 (fun i hi e => by omega)
      simp only at hst hle
      have HA := Lib.hid hacc
      have HS := Lib.hid hst
      have hb : acc + (fa.size + fb.size) ≤ 1048576 := by omega
      clear hacc hst hle hu hr1 hF hLx
      go_wp2
      go_roundw
      case rel =>
        refine ⟨strike L x, cnt1, acc + (fa.size + fb.size), by go_num, ?_, ?_, ?_⟩
        · exact hg1.keeps (S := NoBlock) ((Only.refl _ _).alloc _) (fun h => h) (fun h => h)
        · have := HA.out; have := HS.out; omega
        · exact ho2.alloc _
      case measure =>
        have hg2 := hg1.keeps (S := NoBlock) ((Only.refl _ _).alloc (Obj.cells #[Value.string fa, Value.string fb] 91)) (fun h => h) (fun h => h)
        rw [hg2.left_eq, hg.left_eq]; exact hlt

theorem used_held {w w0 : World} {d mb : Nat} {M : DM} (h : w.cell? ⟨d, 1, none⟩ = some (.int .i64 M.room) ∧ DiskAt w d mb M ∧ Only NoBlock w0 w) :
    Calls Try.prog 31 #[.pointer (some ⟨d, 0, none⟩)] w (fun e w' => e = .returned (.int .i64 M.used) ∧ w'.cell? ⟨d, 1, none⟩ = some (.int .i64 M.room) ∧ DiskAt w' d mb M ∧ Only NoBlock w0 w') :=
  (used_at w d mb M h.2.1).mono fun _ _ ⟨he, hd1, ho1⟩ => ⟨he, hd1.room_cell, hd1, h.2.2.trans ho1⟩

theorem stepped_files (M : DM) : M.stepped.files = M.files := by unfold DM.stepped; split <;> (try split) <;> (try split) <;> rfl
theorem stepped_room (M : DM) : M.stepped.room = M.room := by unfold DM.stepped; split <;> (try split) <;> (try split) <;> rfl
theorem DM.Ok.put {M : DM} (h : M.Ok) {n : Int} {f : File} (h0 : 0 ≤ n) (h1 : n < 16) (hfit : (M.used : Int) + ((f.1.size + f.2.size : Nat) : Int) ≤ M.room + (fsz (M.files n) : Int)) : DM.Ok { M with files := M.files.put n f } := by
  have ht := tot_put (F := M.files) h0 h1 f
  refine ⟨h.room0, h.room1, ?_, h.fuel0, h.fuel1, fun x g hg => ?_⟩
  · show ((tot (M.files.put n f) 16 : Nat) : Int) ≤ M.room
    unfold DM.used at hfit
    omega
  · have hg' : (M.files.put n f) x = some g := hg
    unfold Fs.put at hg'
    by_cases e : x = n
    · omega
    · rw [if_neg e] at hg'; exact h.keys x g hg'
theorem DM.Ok.del {M : DM} (h : M.Ok) {n : Int} (h0 : 0 ≤ n) (h1 : n < 16) : DM.Ok { M with files := M.files.del n } := by
  have ht := tot_del (F := M.files) h0 h1
  have hu := h.used
  refine ⟨h.room0, h.room1, ?_, h.fuel0, h.fuel1, fun x g hg => ?_⟩
  · show ((tot (M.files.del n) 16 : Nat) : Int) ≤ M.room
    unfold DM.used at hu
    omega
  · have hg' : (M.files.del n) x = some g := hg
    unfold Fs.del at hg'
    by_cases e : x = n
    · rw [if_pos e] at hg'; cases hg'
    · rw [if_neg e] at hg'; exact h.keys x g hg'
theorem DiskAt.filed {w w' : World} {d mb : Nat} {M : DM} {F : Fs} (h : DiskAt w d mb M) (ho : Only (fun k => k = mb) w w') (hf : FilesAt Try.prog 3 w' mb F) (hk : DM.Ok { M with files := F }) : DiskAt w' d mb { M with files := F } :=
  ⟨h.blk.keeps ho (fun e => h.ne e), hf, hk⟩

theorem steps_of {M : DM} (h1 : M.off = false) (h2 : M.fuel ≠ 0) : M.steps = true := by simp [DM.steps, h1, h2]

end Go.Proofs.Ytekmjhenhgmpgaa

/- The disk's call Append. -/
namespace Go.Proofs.Ytekmjhenhgmpgaa
open Go.RowKit Go.Maps
set_option maxRecDepth 100000

def AppEnd (M : DM) (n : Int) (s : ByteArray) (d mb : Nat) (w : World) (e : Ending) (w' : World) : Prop :=
  e = .returned (.int .i64 (M.appendE n s)) ∧ DiskAt w' d mb (M.append n s) ∧ Only (fun k => k = d ∨ k = mb) w w'

theorem append_arg (w : World) (d mb : Nat) (M : DM) (n : Int) (s : ByteArray) (h : DiskAt w d mb M) (hn : n < 0 ∨ 16 ≤ n) :
    Calls Try.prog 76 #[.pointer (some ⟨d, 0, none⟩), .int .i64 n, .string s] w (AppEnd M n s d mb w) := by
  rcases hn with hn | hn
  · go_enter Try.func76, Try.ntmps76
    go_wp2
    go_ret
    exact ⟨by simp [DM.appendE, hn], by simpa [DM.append, hn] using h, Only.refl _ _⟩
  · have hn' : ¬ n < 0 := by omega
    go_enter Try.func76, Try.ntmps76
    go_wp2
    go_ret
    exact ⟨by simp [DM.appendE, hn], by simpa [DM.append, hn] using h, Only.refl _ _⟩

theorem append_off (w : World) (d mb : Nat) (M : DM) (n : Int) (s : ByteArray) (h : DiskAt w d mb M) (hn0 : 0 ≤ n) (hn1 : n < 16) (hoff : M.off = true) :
    Calls Try.prog 76 #[.pointer (some ⟨d, 0, none⟩), .int .i64 n, .string s] w (AppEnd M n s d mb w) := by
  have hx : ¬ (n < 0 ∨ 16 ≤ n) := by omega
  have HX := Lib.hid hx
  clear hx
  go_enter Try.func76, Try.ntmps76
  go_wp2_with (first | (go_at_call 30; refine (off_at _ d mb M h).mono ?_; rintro e w1 ⟨rfl, rfl⟩))
  go_ret
  exact ⟨by simp [DM.appendE, HX.out, hoff], by simpa [DM.append, HX.out, hoff] using h, Only.refl _ _⟩

theorem append_full (w : World) (d mb : Nat) (M : DM) (n : Int) (s : ByteArray) (h : DiskAt w d mb M) (hn0 : 0 ≤ n) (hn1 : n < 16) (hoff : M.off = false) (hs : s.size ≤ 9223372036854775807) (hfull : M.room < M.used + s.size) :
    Calls Try.prog 76 #[.pointer (some ⟨d, 0, none⟩), .int .i64 n, .string s] w (AppEnd M n s d mb w) := by
  have hx : ¬ (n < 0 ∨ 16 ≤ n) := by omega
  have HX := Lib.hid hx
  clear hx
  have r0 := h.ok.room0
  have r1 := h.ok.room1
  have ru := h.ok.used
  have c1 := h.room_cell
  go_enter Try.func76, Try.ntmps76
  go_wp2_with (first | (go_at_call 30; refine (off_at _ d mb M h).mono ?_; rintro e w1 ⟨rfl, rfl⟩))
  have hsub : IntKind.i64.wrap (M.room - (M.used : Int)) = M.room - (M.used : Int) := IntWalk.i64_in _ (by omega)
  go_region_held3 (fun w' => w'.cell? ⟨d, 1, none⟩ = some (.int .i64 M.room) ∧ DiskAt w' d mb M ∧ Only NoBlock w w')
    (first | exact ⟨c1, h.drew, (Only.refl _ _).drew⟩ | exact ⟨by assumption, by assumption, by assumption⟩ | go_keep)
    (first | (go_at_call 31; refine (used_held (M := M) (mb := mb) (w0 := w) ?_).mono ?_; (assumption); rintro e w1 ⟨rfl, c2, hd1, ho2⟩))
  clear hsub
  go_wp2
  go_ret
  exact ⟨by simp [DM.appendE, HX.out, hoff, hfull], by simpa [DM.append, HX.out, hoff, hfull] using hd1, ho2.of_no⟩

theorem append_dry (w : World) (d mb : Nat) (M : DM) (n : Int) (s : ByteArray) (h : DiskAt w d mb M) (hn0 : 0 ≤ n) (hn1 : n < 16) (hoff : M.off = false) (hfull : M.used + s.size ≤ M.room) (hst : M.steps = false) :
    Calls Try.prog 76 #[.pointer (some ⟨d, 0, none⟩), .int .i64 n, .string s] w (AppEnd M n s d mb w) := by
  have hx : ¬ (n < 0 ∨ 16 ≤ n) := by omega
  have HX := Lib.hid hx
  clear hx
  have r0 := h.ok.room0
  have r1 := h.ok.room1
  have ru := h.ok.used
  have c1 := h.room_cell
  go_enter Try.func76, Try.ntmps76
  go_wp2_with (first | (go_at_call 30; refine (off_at _ d mb M h).mono ?_; rintro e w1 ⟨rfl, rfl⟩))
  have hsub : IntKind.i64.wrap (M.room - (M.used : Int)) = M.room - (M.used : Int) := IntWalk.i64_in _ (by omega)
  go_region_held3 (fun w' => w'.cell? ⟨d, 1, none⟩ = some (.int .i64 M.room) ∧ DiskAt w' d mb M ∧ Only NoBlock w w')
    (first | exact ⟨c1, h.drew, (Only.refl _ _).drew⟩ | exact ⟨by assumption, by assumption, by assumption⟩ | go_keep)
    (first | (go_at_call 31; refine (used_held (M := M) (mb := mb) (w0 := w) ?_).mono ?_; (assumption); rintro e w1 ⟨rfl, c2, hd1, ho2⟩))
  clear hsub
  go_wp2_with (first | (go_at_call 32; refine (step_at _ d mb M hd1).mono ?_; rintro e w2 ⟨rfl, hd2, ho3⟩))
  go_ret
  have hnf : ¬ (M.room < M.used + s.size) := by omega
  exact ⟨by simp [DM.appendE, HX.out, hoff, hnf, hst], by simpa [DM.append, HX.out, hoff, hnf, hst] using hd2, ho2.of_no.trans ho3⟩

theorem append_go (w : World) (d mb : Nat) (M : DM) (n : Int) (s : ByteArray) (h : DiskAt w d mb M) (hn0 : 0 ≤ n) (hn1 : n < 16) (hoff : M.off = false) (hfull : M.used + s.size ≤ M.room) (hst : M.steps = true) :
    Calls Try.prog 76 #[.pointer (some ⟨d, 0, none⟩), .int .i64 n, .string s] w (AppEnd M n s d mb w) := by
  have hx : ¬ (n < 0 ∨ 16 ≤ n) := by omega
  have HX := Lib.hid hx
  clear hx
  have r0 := h.ok.room0
  have r1 := h.ok.room1
  have ru := h.ok.used
  have c1 := h.room_cell
  obtain ⟨fa, fb, hf⟩ : ∃ fa fb, (M.files n).getD noFile = (fa, fb) := ⟨_, _, rfl⟩
  have hsm := h.ok.small hn0 hn1 hf
  go_enter Try.func76, Try.ntmps76
  go_wp2_with (first | (go_at_call 30; refine (off_at _ d mb M h).mono ?_; rintro e w1 ⟨rfl, rfl⟩))
  have hsub : IntKind.i64.wrap (M.room - (M.used : Int)) = M.room - (M.used : Int) := IntWalk.i64_in _ (by omega)
  go_region_held3 (fun w' => w'.cell? ⟨d, 1, none⟩ = some (.int .i64 M.room) ∧ DiskAt w' d mb M ∧ Only NoBlock w w')
    (first | exact ⟨c1, h.drew, (Only.refl _ _).drew⟩ | exact ⟨by assumption, by assumption, by assumption⟩ | go_keep)
    (first | (go_at_call 31; refine (used_held (M := M) (mb := mb) (w0 := w) ?_).mono ?_; (assumption); rintro e w1 ⟨rfl, c2, hd1, ho2⟩))
  clear hsub
  go_wp2_with (first
    | (go_at_call 32; refine (step_at _ d mb M hd1).mono ?_; rintro e w2 ⟨rfl, hd2, ho3⟩; have c3 := hd2.map_cell; have hdl := hd2.blk.lt; have hfl := hd2.files; rw [stepped_files] at hfl)
    | (at_lookup; refine wpList_look_file1 rfl _ _ _ rfl Dk.law Dk.u_int Dk.u_map Dk.zfile hfl rfl n rfl (wf_small hn0 hn1) fa fb hf ?_))
  refine wp_region_tail 6 (by kernel_rfl) (by kernel_rfl) ?_
  simp only [List.take_succ_cons, List.take_zero, List.drop_succ_cons, List.drop_zero]
  repeat still_step
  try refine wpStill_nil ?_
  have hfd := hfl.keeps (S := NoBlock) (((Only.refl _ w2).alloc (Obj.cells #[Value.string fa, Value.string (fb ++ s)] 91)).drew) (fun h => h)
  go_wp2_with (first
    | (at_mapUpdate; refine wpList_store_file rfl _ _ _ _ rfl Dk.law Dk.u_int Dk.u_map hfd rfl n rfl hn0 hn1 fa (fb ++ s) rfl ?_; intro w3 hf3 hg3))
  go_ret
  have hnf : ¬ (M.room < M.used + s.size) := by omega
  have ho4 : Only (fun k => k = mb) w2 w3 := (((Only.refl _ w2).alloc _).drew).grown hg3 (fun k hk _ => by cases hk; rfl)
  have hok : DM.Ok { M.stepped with files := M.files.put n (fa, fb ++ s) } := by
    have := hd2.ok.put (n := n) (f := (fa, fb ++ s)) hn0 hn1 (by
      rw [stepped_files, stepped_room, getD_fsz hf, show (M.stepped).used = M.used from by unfold DM.used; rw [stepped_files]]
      simp only [ByteArray.size_append]
      omega)
    rw [stepped_files] at this
    exact this
  have hd3 := hd2.filed ho4 hf3 hok
  refine ⟨by simp [DM.appendE, HX.out, hoff, hnf, hst], ?_, (ho2.of_no.trans ho3).trans (ho4.mono (fun k hk => Or.inr hk))⟩
  have e : M.append n s = { M.stepped with files := M.files.put n (fa, fb ++ s) } := by simp [DM.append, HX.out, hoff, hnf, hst, hf]
  rw [e]; exact hd3

theorem append_at (w : World) (d mb : Nat) (M : DM) (n : Int) (s : ByteArray) (h : DiskAt w d mb M) (hs : s.size ≤ 9223372036854775807) :
    Calls Try.prog 76 #[.pointer (some ⟨d, 0, none⟩), .int .i64 n, .string s] w (AppEnd M n s d mb w) := by
  by_cases hn : n < 0 ∨ 16 ≤ n
  · exact append_arg w d mb M n s h hn
  · cases ho : M.off with
    | true => exact append_off w d mb M n s h (by omega) (by omega) ho
    | false =>
      by_cases hf : M.room < M.used + s.size
      · exact append_full w d mb M n s h (by omega) (by omega) ho hs hf
      · cases hst : M.steps with
        | false => exact append_dry w d mb M n s h (by omega) (by omega) ho (by omega) hst
        | true => exact append_go w d mb M n s h (by omega) (by omega) ho (by omega) hst

theorem append_nil (w : World) (n : Int) (s : ByteArray) :
    Calls Try.prog 76 #[.pointer none, .int .i64 n, .string s] w fun e w' => e = .returned (.int .i64 (if n < 0 ∨ 16 ≤ n then 1 else 10)) ∧ w = w' := by
  by_cases h1 : n < 0
  · go_enter Try.func76, Try.ntmps76
    go_wp2
    go_ret
    exact ⟨rfl, rfl⟩
  · by_cases h2 : 16 ≤ n
    · go_enter Try.func76, Try.ntmps76
      go_wp2
      go_ret
      exact ⟨rfl, rfl⟩
    · go_enter Try.func76, Try.ntmps76
      go_wp2_with (first | (go_at_call 30; refine (off_nil _).mono ?_; rintro e w1 ⟨rfl, rfl⟩))
      go_ret
      have hx : ¬ (n < 0 ∨ 16 ≤ n) := by omega
      exact ⟨rfl, rfl⟩

end Go.Proofs.Ytekmjhenhgmpgaa

/- The disk's calls Sync, Remove, Read. -/
namespace Go.Proofs.Ytekmjhenhgmpgaa
open Go.RowKit Go.Maps
set_option maxRecDepth 100000

def SynEnd (M : DM) (n : Int) (d mb : Nat) (w : World) (e : Ending) (w' : World) : Prop :=
  e = .returned (.int .i64 (M.syncE n)) ∧ DiskAt w' d mb (M.sync n) ∧ Only (fun k => k = d ∨ k = mb) w w'

theorem there_range {M : DM} (h : M.Ok) {n : Int} (hs : (M.files n).isSome = true) : 0 ≤ n ∧ n < 16 := by
  cases hx : M.files n with
  | none => rw [hx] at hs; cases hs
  | some f => exact h.keys n f hx

theorem local_file {w w2 : World} {d mb : Nat} {M : DM} (h : DiskAt w d mb M) (fa fb : ByteArray) (ho : Only (fun k => k = d ∨ k = mb) (w.alloc (Obj.cells #[Value.string fa, Value.string fb] 91)) w2) :
    Blk w2 w.heap.size #[.string fa, .string fb] 91 := by
  have h1 := h.blk.lt
  have h2 := h.files.lt
  refine (Blk.made w _ _).keeps ho ?_
  rintro (e | e) <;> omega

theorem sync_at (w : World) (d mb : Nat) (M : DM) (n : Int) (h : DiskAt w d mb M) (hw : (Lit.int .i64 n).wf = true) :
    Calls Try.prog 61 #[.pointer (some ⟨d, 0, none⟩), .int .i64 n] w (SynEnd M n d mb w) := by
  have c0 := h.map_cell
  have hdl := h.blk.lt
  cases hoff : M.off with
  | true =>
    go_enter Try.func61, Try.ntmps61
    go_wp2_with (first | (go_at_call 30; refine (off_at _ d mb M h).mono ?_; rintro e w1 ⟨rfl, rfl⟩))
    go_ret
    exact ⟨by simp [DM.syncE, hoff], by simpa [DM.sync, hoff] using h, Only.refl _ _⟩
  | false =>
    obtain ⟨fa, fb, hf⟩ : ∃ fa fb, (M.files n).getD noFile = (fa, fb) := ⟨_, _, rfl⟩
    cases hth : (M.files n).isSome with
    | false =>
      go_enter Try.func61, Try.ntmps61
      go_wp2_with (first
        | (go_at_call 30; refine (off_at _ d mb M h).mono ?_; rintro e w1 ⟨rfl, rfl⟩)
        | (at_lookup; refine wpList_look_file rfl _ _ _ rfl Dk.law Dk.u_int Dk.u_map Dk.zfile h.files rfl n rfl hw fa fb hf false hth ?_))
      go_ret
      have ho := (Only.refl NoBlock w).alloc (Obj.cells #[Value.string fa, Value.string fb] 91)
      exact ⟨by simp [DM.syncE, hoff, hth], by simpa [DM.sync, hoff, hth] using h.keeps ho (fun h => h) (fun h => h), ho.of_no⟩
    | true =>
      obtain ⟨hn0, hn1⟩ := there_range h.ok hth
      have hsm := h.ok.small hn0 hn1 hf
      have hus := h.ok.used
      have hr1 := h.ok.room1
      cases hst : M.steps with
      | false =>
        go_enter Try.func61, Try.ntmps61
        go_wp2_with (first
          | (go_at_call 30; refine (off_at _ d mb M h).mono ?_; rintro e w1 ⟨rfl, rfl⟩)
          | (at_lookup; refine wpList_look_file rfl _ _ _ rfl Dk.law Dk.u_int Dk.u_map Dk.zfile h.files rfl n rfl hw fa fb hf true hth ?_)
          | (go_at_call 32; refine (step_at _ d mb M (h.keeps ((Only.refl NoBlock w).alloc _) (fun h => h) (fun h => h))).mono ?_; rintro e w2 ⟨rfl, hd2, ho3⟩))
        go_ret
        have ho := (Only.refl (fun k => k = d ∨ k = mb) w).alloc (Obj.cells #[Value.string fa, Value.string fb] 91)
        exact ⟨by simp [DM.syncE, hoff, hth, hst], by simpa [DM.sync, hoff, hth, hst] using hd2, ho.trans ho3⟩
      | true =>
        go_enter Try.func61, Try.ntmps61
        go_wp2_with (first
          | (go_at_call 30; refine (off_at _ d mb M h).mono ?_; rintro e w1 ⟨rfl, rfl⟩)
          | (at_lookup; refine wpList_look_file rfl _ _ _ rfl Dk.law Dk.u_int Dk.u_map Dk.zfile h.files rfl n rfl hw fa fb hf true hth ?_)
          | (go_at_call 32; refine (step_at _ d mb M (h.keeps ((Only.refl NoBlock w).alloc _) (fun h => h) (fun h => h))).mono ?_; rintro e w2 ⟨rfl, hd2, ho3⟩))
        have hb := local_file h fa fb ho3
        have l0 : w2.cell? ⟨w.heap.size, 0, none⟩ = some (.string fa) := by have := hb.cell 0; simpa using this
        have l1 : w2.cell? ⟨w.heap.size, 1, none⟩ = some (.string fb) := by have := hb.cell 1; simpa using this
        have c3 := hd2.map_cell
        have hfl := hd2.files
        rw [stepped_files] at hfl
        have hcat : (9223372036854775807 < fa.size + fb.size) = False := by simp; omega
        clear hb
        refine wp_region_tail 11 (by kernel_rfl) (by kernel_rfl) ?_
        simp only [List.take_succ_cons, List.take_zero, List.drop_succ_cons, List.drop_zero]
        repeat still_step
        refine wpStill_nil ?_
        clear hcat
        go_wp2_with (first
          | (at_mapUpdate; refine wpList_store_file rfl _ _ _ _ rfl Dk.law Dk.u_int Dk.u_map (hfl.keeps (S := NoBlock) (Only.refl _ w2).drew (fun h => h)) rfl n rfl hn0 hn1 (fa ++ fb) ByteArray.empty rfl ?_; intro w3 hf3 hg3))
        go_ret
        have ho := (Only.refl (fun k => k = d ∨ k = mb) w).alloc (Obj.cells #[Value.string fa, Value.string fb] 91)
        have ho4 : Only (fun k => k = mb) w2 w3 := ((Only.refl _ w2).drew).grown hg3 (fun k hk _ => by cases hk; rfl)
        have hok : DM.Ok { M.stepped with files := M.files.put n (fa ++ fb, ByteArray.empty) } := by
          have := hd2.ok.put (n := n) (f := (fa ++ fb, ByteArray.empty)) hn0 hn1 (by
            rw [stepped_files, stepped_room, getD_fsz hf, show (M.stepped).used = M.used from by unfold DM.used; rw [stepped_files]]
            simp only [ByteArray.size_append, ByteArray.size_empty]
            omega)
          rw [stepped_files] at this
          exact this
        refine ⟨by simp [DM.syncE, hoff, hth, hst], ?_, (ho.trans ho3).trans (ho4.mono (fun k hk => Or.inr hk))⟩
        have e : M.sync n = { M.stepped with files := M.files.put n (fa ++ fb, ByteArray.empty) } := by simp [DM.sync, hoff, hth, hst, hf]
        rw [e]; exact hd2.filed ho4 hf3 hok

theorem sync_nil (w : World) (n : Int) :
    Calls Try.prog 61 #[.pointer none, .int .i64 n] w fun e w' => e = .returned (.int .i64 10) ∧ w = w' := by
  go_enter Try.func61, Try.ntmps61
  go_wp2_with (first | (go_at_call 30; refine (off_nil _).mono ?_; rintro e w1 ⟨rfl, rfl⟩))
  go_ret
  exact ⟨rfl, rfl⟩

def RemEnd (M : DM) (n : Int) (d mb : Nat) (w : World) (e : Ending) (w' : World) : Prop :=
  e = .returned (.int .i64 (M.removeE n)) ∧ DiskAt w' d mb (M.remove n) ∧ Only (fun k => k = d ∨ k = mb) w w'

theorem read_at (w : World) (d mb : Nat) (M : DM) (n : Int) (h : DiskAt w d mb M) (hw : (Lit.int .i64 n).wf = true) :
    Calls Try.prog 20 #[.pointer (some ⟨d, 0, none⟩), .int .i64 n] w fun e w' => e = .returned (.tuple #[.string (M.read n), .int .i64 (M.readE n)]) ∧ Only NoBlock w w' := by
  have c0 := h.map_cell
  have hdl := h.blk.lt
  cases hoff : M.off with
  | true =>
    go_enter Try.func20, Try.ntmps20
    go_wp2_with (first | (go_at_call 30; refine (off_at _ d mb M h).mono ?_; rintro e w1 ⟨rfl, rfl⟩))
    go_ret2
    exact ⟨by simp [DM.read, DM.readE, hoff]; rfl, Only.refl _ _⟩
  | false =>
    obtain ⟨fa, fb, hf⟩ : ∃ fa fb, (M.files n).getD noFile = (fa, fb) := ⟨_, _, rfl⟩
    have ho := (Only.refl NoBlock w).alloc (Obj.cells #[Value.string fa, Value.string fb] 91)
    cases hth : (M.files n).isSome with
    | false =>
      go_enter Try.func20, Try.ntmps20
      go_wp2_with (first
        | (go_at_call 30; refine (off_at _ d mb M h).mono ?_; rintro e w1 ⟨rfl, rfl⟩)
        | (at_lookup; refine wpList_look_file rfl _ _ _ rfl Dk.law Dk.u_int Dk.u_map Dk.zfile h.files rfl n rfl hw fa fb hf false hth ?_))
      go_ret2
      exact ⟨by simp [DM.read, DM.readE, hoff, hth]; rfl, ho⟩
    | true =>
      obtain ⟨hn0, hn1⟩ := there_range h.ok hth
      have hsm := h.ok.small hn0 hn1 hf
      have hus := h.ok.used
      have hr1 := h.ok.room1
      go_enter Try.func20, Try.ntmps20
      go_wp2_with (first
        | (go_at_call 30; refine (off_at _ d mb M h).mono ?_; rintro e w1 ⟨rfl, rfl⟩)
        | (at_lookup; refine wpList_look_file rfl _ _ _ rfl Dk.law Dk.u_int Dk.u_map Dk.zfile h.files rfl n rfl hw fa fb hf true hth ?_))
      go_ret2
      exact ⟨by simp [DM.read, DM.readE, hoff, hth, hf], ho⟩

theorem read_nil (w : World) (n : Int) :
    Calls Try.prog 20 #[.pointer none, .int .i64 n] w fun e w' => e = .returned (.tuple #[.string ByteArray.empty, .int .i64 10]) ∧ w = w' := by
  go_enter Try.func20, Try.ntmps20
  go_wp2_with (first | (go_at_call 30; refine (off_nil _).mono ?_; rintro e w1 ⟨rfl, rfl⟩))
  go_ret2
  exact ⟨rfl, rfl⟩

end Go.Proofs.Ytekmjhenhgmpgaa

/- Rows of numbers: of a call's own, appended to, and read. -/
namespace Go.Proofs.Ytekmjhenhgmpgaa
open Go.RowKit

/-- a slice of the call's own that holds these numbers -/
def Ints (w : World) (base : Nat) (v : Value) (l : List Int) : Prop := w.ownsRow base 3 1 v l.length (l.map (Value.int .i64))

/-- a slice of numbers that is read: whose cells hold these -/
structure IntsIn (w : World) (ao : Option Addr) (l : List Int) : Prop where
  wf : ∀ x ∈ l, (Lit.int .i64 x).wf = true
  len : l.length ≤ maxLen
  cell : ∀ i, i < l.length → ∃ b off, ao = some ⟨b, off, none⟩ ∧ w.cell? ⟨b, off + i, none⟩ = some (.int .i64 (l.getD i 0))

theorem IntsIn.stay {S : Nat → Prop} {w w' : World} {ao : Option Addr} {l : List Int} (h : IntsIn w ao l) (ho : Only S w w') (hs : ∀ a, ao = some a → ¬ S a.block) : IntsIn w' ao l :=
  ⟨h.wf, h.len, fun i hi => by
    obtain ⟨b, off, e, hc⟩ := h.cell i hi
    refine ⟨b, off, e, ?_⟩
    have hlt : b < w.heap.size := World.block_lt_of_cell? w _ hc
    have hb := ho.block b hlt (hs ⟨b, off, none⟩ e)
    rw [← hc]
    simp [World.cell?, hb]⟩

theorem Ints.read {w : World} {base : Nat} {v : Value} {l : List Int} (h : Ints w base v l) (hl : l.length ≤ maxLen) (hw : ∀ x ∈ l, (Lit.int .i64 x).wf = true) : ∃ ao cap, v = .slice ao l.length cap ∧ IntsIn w ao l := by
  have h0 := h
  unfold Ints at h0
  rcases h.2 with ⟨rfl, h1⟩ | ⟨g, cap, cur, rfl, _⟩
  · have : l = [] := List.length_eq_zero_iff.1 h1
    subst this
    exact ⟨none, 0, rfl, hw, hl, fun i hi => absurd hi (by simp)⟩
  · refine ⟨_, cap, rfl, hw, hl, fun i hi => ⟨g, 0, rfl, ?_⟩⟩
    rw [Nat.zero_add, h0.cellAt i (by omega), List.getElem?_map, List.getElem?_eq_getElem hi]
    simp [List.getD, hi]

namespace Nu
theorem u_ints : Try.prog.underlying 73 = some (.slice 3) := by kernel_rfl
theorem info : (Try.prog.info? 3).map (fun i => (i.zero, i.size, i.bytes)) = some (some (.int .i64 0), 1, 8) := by kernel_rfl
end Nu

section
variable {w w' : World} {base : Nat} {v : Value} {l : List Int}
theorem Ints.keeps' {S : Nat → Prop} (h : Ints w base v l) (ho : Only S w w') (hs : ∀ k, v.ownBlock = some k → ¬ S k) : Ints w' base v l := row_keeps h ho hs
theorem Ints.nil' (w : World) (base : Nat) : Ints w base (.slice none 0 0) [] := World.ownsRow_nil _ _ _ _
theorem Ints.shape (h : Ints w base v l) : ∃ ao cap, v = .slice ao l.length cap := by
  rcases h.2 with ⟨h1, h0⟩ | ⟨g, cap, cur, rfl, hb, _, hn, hm, _⟩
  · exact ⟨none, 0, by rw [h1, h0]⟩
  · exact ⟨_, cap, rfl⟩
theorem Ints.at' {ao : Option Addr} {cap : Nat} (h : Ints w base (.slice ao l.length cap) l) {k : Nat} (hk : k < l.length) : ∃ b off, ao = some ⟨b, off, none⟩ ∧ w.cell? ⟨b, off + k, none⟩ = some (.int .i64 (l.getD k 0)) := by
  rcases h.2 with ⟨h1, h0⟩ | ⟨g, cap', cur, h1, hb, hg, hn, hm, _, ht⟩
  · omega
  · simp only [Value.slice.injEq] at h1
    obtain ⟨rfl, _, rfl⟩ := h1
    refine ⟨g, 0, rfl, ?_⟩
    rw [Nat.zero_add]
    have := World.ownsRow.cellAt h k (by simpa using hk)
    rw [this, List.getElem?_map, List.getElem?_eq_getElem hk]
    simp [List.getD, hk]
theorem Ints.lenLe {ao : Option Addr} {cap : Nat} (h : Ints w base (.slice ao l.length cap) l) : l.length ≤ cap ∧ cap ≤ maxLen := by
  rcases h.2 with ⟨h1, h0⟩ | ⟨g, cap', cur, h1, hb, hg, hn, hm, _, ht⟩
  · simp only [Value.slice.injEq] at h1
    exact ⟨by omega, by rw [h1.2.2]; unfold maxLen; omega⟩
  · simp only [Value.slice.injEq] at h1
    obtain ⟨rfl, _, rfl⟩ := h1
    exact ⟨hn, hm⟩
theorem cell_int (w : World) (c : Int) (t : TypeId) (n : Nat) (hn : n = w.heap.size) : (w.alloc (.cells #[.int .i64 c] t)).cell? ⟨n, 0, none⟩ = some (.int .i64 c) := by
  subst hn
  rw [(Blk.made w _ _).cell]; rfl
end

section
variable {ops : Array Oper} {rest : List Oper} {o : Oper} {a : Act} {Q : Exit → Act → World → Prop}
theorem wpList_append_int (w : World) (hgd : o.guard = none) (s x : Operand) (ho : o.op = .call { callee := .builtin .append, args := #[s, x], argTypes := #[73, 73] })
    (base : Nat) (v : Value) (l : List Int) (c : Int) (ad : Addr) (n : Nat) (hs : a.eval s = v) (hown : Ints w base v l) (hx : a.eval x = .slice (some ad) 1 n) (hc : w.cell? ad = some (.int .i64 c))
    (hlen : l.length + 1 ≤ 17592186044416) (hbase : base ≤ w.heap.size)
    (h : ∀ v' w', Ints w' base v' (l ++ [c]) → w.grownBy w' v.ownBlock → wpList Try.prog ops Q rest (a.put o.dst v') w') : wpList Try.prog ops Q (o :: rest) a w := by
  obtain ⟨i, hi, hz, hsz, hby⟩ := info_parts Nu.info
  refine wpList_append_own w hgd s x _ ho base 3 i (.int .i64 0) 1 8 Nu.u_ints hi hz hsz hby rfl (by decide) v l.length _ hs hown ad 1 n [.int .i64 c] hx rfl ?_ ?_ ?_ ?_ hbase ?_
  · intro j u hj
    cases j with
    | zero =>
      cases hj
      have : ad.add 0 = ad := by unfold Addr.add; obtain ⟨b, off, sp⟩ := ad; cases sp <;> rfl
      rw [this]; exact hc
    | succ j => cases hj
  · simp [Value.oneCell']
  · unfold maxLen; omega
  · omega
  · intro v' w' h1 h2 _
    refine h v' w' ?_ h2
    unfold Ints
    simpa using h1
end
end Go.Proofs.Ytekmjhenhgmpgaa

/- The disk's calls Replace and Files. -/
namespace Go.Proofs.Ytekmjhenhgmpgaa
open Go.RowKit Go.Maps
set_option maxRecDepth 100000

def RepEnd (M : DM) (n : Int) (s : ByteArray) (d mb : Nat) (w : World) (e : Ending) (w' : World) : Prop :=
  e = .returned (.int .i64 (M.replaceE n s)) ∧ DiskAt w' d mb (M.replace n s) ∧ Only (fun k => k = d ∨ k = mb) w w'

theorem keeps_cell {S : Nat → Prop} {w w' : World} {a : Addr} {v : Value} (ho : Only S w w') (hs : ¬ S a.block) (h : w.cell? a = some v) : w'.cell? a = some v := by
  have hlt : a.block < w.heap.size := World.block_lt_of_cell? w a h
  exact (World.cell?_of_block (ho.block a.block hlt hs)).trans h

theorem used_held3 {w w0 : World} {d mb l : Nat} {fa fb : ByteArray} {M : DM} (h : w.cell? ⟨d, 1, none⟩ = some (.int .i64 M.room) ∧ w.cell? ⟨l, 0, none⟩ = some (.string fa) ∧ w.cell? ⟨l, 1, none⟩ = some (.string fb) ∧ DiskAt w d mb M ∧ Only NoBlock w0 w) :
    Calls Try.prog 31 #[.pointer (some ⟨d, 0, none⟩)] w (fun e w' => e = .returned (.int .i64 M.used) ∧ w'.cell? ⟨d, 1, none⟩ = some (.int .i64 M.room) ∧ w'.cell? ⟨l, 0, none⟩ = some (.string fa) ∧ w'.cell? ⟨l, 1, none⟩ = some (.string fb) ∧ DiskAt w' d mb M ∧ Only NoBlock w0 w') :=
  (used_at w d mb M h.2.2.2.1).mono fun _ _ ⟨he, hd1, ho1⟩ => ⟨he, hd1.room_cell, keeps_cell ho1 (fun h => h) h.2.1, keeps_cell ho1 (fun h => h) h.2.2.1, hd1, h.2.2.2.2.trans ho1⟩

theorem replace_arg (w : World) (d mb : Nat) (M : DM) (n : Int) (s : ByteArray) (h : DiskAt w d mb M) (hw : (Lit.int .i64 n).wf = true) (hn : n < 0 ∨ 16 ≤ n) :
    Calls Try.prog 12 #[.pointer (some ⟨d, 0, none⟩), .int .i64 n, .string s] w (RepEnd M n s d mb w) := by
  have c0 := h.map_cell
  have hdl := h.blk.lt
  obtain ⟨fa, fb, hf⟩ : ∃ fa fb, (M.files n).getD noFile = (fa, fb) := ⟨_, _, rfl⟩
  have ho := (Only.refl NoBlock w).alloc (Obj.cells #[Value.string fa, Value.string fb] 91)
  rcases hn with hn | hn
  · go_enter Try.func12, Try.ntmps12
    go_wp2_with (first
        | (at_lookup; refine wpList_look_file1 rfl _ _ _ rfl Dk.law Dk.u_int Dk.u_map Dk.zfile (h.files.keeps (S := NoBlock) ((Only.refl NoBlock w).alloc _) (fun h => h)) rfl n rfl hw fa fb hf ?_))
    go_ret
    exact ⟨by simp [DM.replaceE, hn], by simpa [DM.replace, hn] using h.keeps ho (fun h => h) (fun h => h), ho.of_no⟩
  · have hn' : ¬ n < 0 := by omega
    go_enter Try.func12, Try.ntmps12
    go_wp2_with (first
        | (at_lookup; refine wpList_look_file1 rfl _ _ _ rfl Dk.law Dk.u_int Dk.u_map Dk.zfile (h.files.keeps (S := NoBlock) ((Only.refl NoBlock w).alloc _) (fun h => h)) rfl n rfl hw fa fb hf ?_))
    go_ret
    exact ⟨by simp [DM.replaceE, hn], by simpa [DM.replace, hn] using h.keeps ho (fun h => h) (fun h => h), ho.of_no⟩

theorem replace_off (w : World) (d mb : Nat) (M : DM) (n : Int) (s : ByteArray) (h : DiskAt w d mb M) (hn0 : 0 ≤ n) (hn1 : n < 16) (hoff : M.off = true) :
    Calls Try.prog 12 #[.pointer (some ⟨d, 0, none⟩), .int .i64 n, .string s] w (RepEnd M n s d mb w) := by
  have c0 := h.map_cell
  have hdl := h.blk.lt
  have hx : ¬ (n < 0 ∨ 16 ≤ n) := by omega
  have HX := Lib.hid hx
  clear hx
  obtain ⟨fa, fb, hf⟩ : ∃ fa fb, (M.files n).getD noFile = (fa, fb) := ⟨_, _, rfl⟩
  have ho := (Only.refl NoBlock w).alloc (Obj.cells #[Value.string fa, Value.string fb] 91)
  have h1 := h.keeps ho (fun h => h) (fun h => h)
  go_enter Try.func12, Try.ntmps12
  go_wp2_with (first
    | (at_lookup; refine wpList_look_file1 rfl _ _ _ rfl Dk.law Dk.u_int Dk.u_map Dk.zfile (h.files.keeps (S := NoBlock) ((Only.refl NoBlock w).alloc _) (fun h => h)) rfl n rfl (wf_small hn0 hn1) fa fb hf ?_)
    | (go_at_call 30; refine (off_at _ d mb M h1).mono ?_; rintro e w1 ⟨rfl, rfl⟩))
  go_ret
  exact ⟨by simp [DM.replaceE, HX.out, hoff], by simpa [DM.replace, HX.out, hoff] using h1, ho.of_no⟩

theorem replace_full (w : World) (d mb : Nat) (M : DM) (n : Int) (s : ByteArray) (h : DiskAt w d mb M) (hn0 : 0 ≤ n) (hn1 : n < 16) (hoff : M.off = false) (hs : s.size ≤ 9223372036854775807) (hfull : M.room + fsz (M.files n) < M.used + s.size) :
    Calls Try.prog 12 #[.pointer (some ⟨d, 0, none⟩), .int .i64 n, .string s] w (RepEnd M n s d mb w) := by
  have c0 := h.map_cell
  have hdl := h.blk.lt
  have hx : ¬ (n < 0 ∨ 16 ≤ n) := by omega
  have HX := Lib.hid hx
  clear hx
  have HFull := Lib.hid hfull
  have r0 := h.ok.room0
  have r1 := h.ok.room1
  have ru := h.ok.used
  obtain ⟨fa, fb, hf⟩ : ∃ fa fb, (M.files n).getD noFile = (fa, fb) := ⟨_, _, rfl⟩
  have hsm := h.ok.small hn0 hn1 hf
  rw [getD_fsz hf] at hfull
  have ho := (Only.refl NoBlock w).alloc (Obj.cells #[Value.string fa, Value.string fb] 91)
  have h1 := h.keeps ho (fun h => h) (fun h => h)
  go_enter Try.func12, Try.ntmps12
  go_wp2_with (first
    | (at_lookup; refine wpList_look_file1 rfl _ _ _ rfl Dk.law Dk.u_int Dk.u_map Dk.zfile (h.files.keeps (S := NoBlock) ((Only.refl NoBlock w).alloc _) (fun h => h)) rfl n rfl (wf_small hn0 hn1) fa fb hf ?_)
    | (go_at_call 30; refine (off_at _ d mb M h1).mono ?_; rintro e w1 ⟨rfl, rfl⟩))
  have hsub : IntKind.i64.wrap (M.room - (M.used : Int)) = M.room - (M.used : Int) := IntWalk.i64_in _ (by omega)
  have hsub1 : IntKind.i64.wrap (M.room - (M.used : Int) + (fa.size : Int)) = M.room - (M.used : Int) + (fa.size : Int) := IntWalk.i64_in _ (by omega)
  have hsub2 : IntKind.i64.wrap (M.room - (M.used : Int) + (fa.size : Int) + (fb.size : Int)) = M.room - (M.used : Int) + (fa.size : Int) + (fb.size : Int) := IntWalk.i64_in _ (by omega)
  have k1 := h1.room_cell
  have l0 : (w.alloc (Obj.cells #[Value.string fa, Value.string fb] 91)).cell? ⟨w.heap.size, 0, none⟩ = some (.string fa) := by simp
  have l1 : (w.alloc (Obj.cells #[Value.string fa, Value.string fb] 91)).cell? ⟨w.heap.size, 1, none⟩ = some (.string fb) := by simp
  go_region_held3 (fun w' => w'.cell? ⟨d, 1, none⟩ = some (.int .i64 M.room) ∧ w'.cell? ⟨w.heap.size, 0, none⟩ = some (.string fa) ∧ w'.cell? ⟨w.heap.size, 1, none⟩ = some (.string fb) ∧ DiskAt w' d mb M ∧ Only NoBlock w w')
    (first | exact ⟨k1, l0, l1, h1.drew, ho.drew⟩ | exact ⟨by assumption, by assumption, by assumption, by assumption, by assumption⟩ | go_keep)
    (first | (go_at_call 31; refine (used_held3 (M := M) (mb := mb) (w0 := w) (l := w.heap.size) (fa := fa) (fb := fb) ?_).mono ?_; (assumption); rintro e w1 ⟨rfl, c2, l2, l3, hd1, ho2⟩))
  clear hsub hsub1 hsub2
  go_wp2
  go_ret
  exact ⟨by simp [DM.replaceE, HX.out, hoff, HFull.out], by simpa [DM.replace, HX.out, hoff, HFull.out] using hd1, ho2.of_no⟩

theorem replace_dry (w : World) (d mb : Nat) (M : DM) (n : Int) (s : ByteArray) (h : DiskAt w d mb M) (hn0 : 0 ≤ n) (hn1 : n < 16) (hoff : M.off = false) (hfull : ¬ (M.room + fsz (M.files n) < M.used + s.size)) (hst : M.steps = false) :
    Calls Try.prog 12 #[.pointer (some ⟨d, 0, none⟩), .int .i64 n, .string s] w (RepEnd M n s d mb w) := by
  have c0 := h.map_cell
  have hdl := h.blk.lt
  have hx : ¬ (n < 0 ∨ 16 ≤ n) := by omega
  have HX := Lib.hid hx
  clear hx
  have HFull := Lib.hid hfull
  have r0 := h.ok.room0
  have r1 := h.ok.room1
  have ru := h.ok.used
  obtain ⟨fa, fb, hf⟩ : ∃ fa fb, (M.files n).getD noFile = (fa, fb) := ⟨_, _, rfl⟩
  have hsm := h.ok.small hn0 hn1 hf
  rw [getD_fsz hf] at hfull
  have ho := (Only.refl NoBlock w).alloc (Obj.cells #[Value.string fa, Value.string fb] 91)
  have h1 := h.keeps ho (fun h => h) (fun h => h)
  go_enter Try.func12, Try.ntmps12
  go_wp2_with (first
    | (at_lookup; refine wpList_look_file1 rfl _ _ _ rfl Dk.law Dk.u_int Dk.u_map Dk.zfile (h.files.keeps (S := NoBlock) ((Only.refl NoBlock w).alloc _) (fun h => h)) rfl n rfl (wf_small hn0 hn1) fa fb hf ?_)
    | (go_at_call 30; refine (off_at _ d mb M h1).mono ?_; rintro e w1 ⟨rfl, rfl⟩))
  have hsub : IntKind.i64.wrap (M.room - (M.used : Int)) = M.room - (M.used : Int) := IntWalk.i64_in _ (by omega)
  have hsub1 : IntKind.i64.wrap (M.room - (M.used : Int) + (fa.size : Int)) = M.room - (M.used : Int) + (fa.size : Int) := IntWalk.i64_in _ (by omega)
  have hsub2 : IntKind.i64.wrap (M.room - (M.used : Int) + (fa.size : Int) + (fb.size : Int)) = M.room - (M.used : Int) + (fa.size : Int) + (fb.size : Int) := IntWalk.i64_in _ (by omega)
  have k1 := h1.room_cell
  have l0 : (w.alloc (Obj.cells #[Value.string fa, Value.string fb] 91)).cell? ⟨w.heap.size, 0, none⟩ = some (.string fa) := by simp
  have l1 : (w.alloc (Obj.cells #[Value.string fa, Value.string fb] 91)).cell? ⟨w.heap.size, 1, none⟩ = some (.string fb) := by simp
  go_region_held3 (fun w' => w'.cell? ⟨d, 1, none⟩ = some (.int .i64 M.room) ∧ w'.cell? ⟨w.heap.size, 0, none⟩ = some (.string fa) ∧ w'.cell? ⟨w.heap.size, 1, none⟩ = some (.string fb) ∧ DiskAt w' d mb M ∧ Only NoBlock w w')
    (first | exact ⟨k1, l0, l1, h1.drew, ho.drew⟩ | exact ⟨by assumption, by assumption, by assumption, by assumption, by assumption⟩ | go_keep)
    (first | (go_at_call 31; refine (used_held3 (M := M) (mb := mb) (w0 := w) (l := w.heap.size) (fa := fa) (fb := fb) ?_).mono ?_; (assumption); rintro e w1 ⟨rfl, c2, l2, l3, hd1, ho2⟩))
  clear hsub hsub1 hsub2
  go_wp2_with (first | (go_at_call 32; refine (step_at _ d mb M hd1).mono ?_; rintro e w2 ⟨rfl, hd2, ho3⟩))
  go_ret
  have hnf : ¬ (M.room + fsz (M.files n) < M.used + s.size) := by have := HFull.out; omega
  exact ⟨by simp [DM.replaceE, HX.out, hoff, hnf, hst], by simpa [DM.replace, HX.out, hoff, hnf, hst] using hd2, ho2.of_no.trans ho3⟩

theorem replace_go (w : World) (d mb : Nat) (M : DM) (n : Int) (s : ByteArray) (h : DiskAt w d mb M) (hn0 : 0 ≤ n) (hn1 : n < 16) (hoff : M.off = false) (hfull : ¬ (M.room + fsz (M.files n) < M.used + s.size)) (hst : M.steps = true) :
    Calls Try.prog 12 #[.pointer (some ⟨d, 0, none⟩), .int .i64 n, .string s] w (RepEnd M n s d mb w) := by
  have c0 := h.map_cell
  have hdl := h.blk.lt
  have hx : ¬ (n < 0 ∨ 16 ≤ n) := by omega
  have HX := Lib.hid hx
  clear hx
  have HFull := Lib.hid hfull
  have r0 := h.ok.room0
  have r1 := h.ok.room1
  have ru := h.ok.used
  obtain ⟨fa, fb, hf⟩ : ∃ fa fb, (M.files n).getD noFile = (fa, fb) := ⟨_, _, rfl⟩
  have hsm := h.ok.small hn0 hn1 hf
  rw [getD_fsz hf] at hfull
  have ho := (Only.refl NoBlock w).alloc (Obj.cells #[Value.string fa, Value.string fb] 91)
  have h1 := h.keeps ho (fun h => h) (fun h => h)
  go_enter Try.func12, Try.ntmps12
  go_wp2_with (first
    | (at_lookup; refine wpList_look_file1 rfl _ _ _ rfl Dk.law Dk.u_int Dk.u_map Dk.zfile (h.files.keeps (S := NoBlock) ((Only.refl NoBlock w).alloc _) (fun h => h)) rfl n rfl (wf_small hn0 hn1) fa fb hf ?_)
    | (go_at_call 30; refine (off_at _ d mb M h1).mono ?_; rintro e w1 ⟨rfl, rfl⟩))
  have hsub : IntKind.i64.wrap (M.room - (M.used : Int)) = M.room - (M.used : Int) := IntWalk.i64_in _ (by omega)
  have hsub1 : IntKind.i64.wrap (M.room - (M.used : Int) + (fa.size : Int)) = M.room - (M.used : Int) + (fa.size : Int) := IntWalk.i64_in _ (by omega)
  have hsub2 : IntKind.i64.wrap (M.room - (M.used : Int) + (fa.size : Int) + (fb.size : Int)) = M.room - (M.used : Int) + (fa.size : Int) + (fb.size : Int) := IntWalk.i64_in _ (by omega)
  have k1 := h1.room_cell
  have l0 : (w.alloc (Obj.cells #[Value.string fa, Value.string fb] 91)).cell? ⟨w.heap.size, 0, none⟩ = some (.string fa) := by simp
  have l1 : (w.alloc (Obj.cells #[Value.string fa, Value.string fb] 91)).cell? ⟨w.heap.size, 1, none⟩ = some (.string fb) := by simp
  go_region_held3 (fun w' => w'.cell? ⟨d, 1, none⟩ = some (.int .i64 M.room) ∧ w'.cell? ⟨w.heap.size, 0, none⟩ = some (.string fa) ∧ w'.cell? ⟨w.heap.size, 1, none⟩ = some (.string fb) ∧ DiskAt w' d mb M ∧ Only NoBlock w w')
    (first | exact ⟨k1, l0, l1, h1.drew, ho.drew⟩ | exact ⟨by assumption, by assumption, by assumption, by assumption, by assumption⟩ | go_keep)
    (first | (go_at_call 31; refine (used_held3 (M := M) (mb := mb) (w0 := w) (l := w.heap.size) (fa := fa) (fb := fb) ?_).mono ?_; (assumption); rintro e w1 ⟨rfl, c2, l2, l3, hd1, ho2⟩))
  clear hsub hsub1 hsub2
  go_wp2_with (first
    | (go_at_call 32; refine (step_at _ d mb M hd1).mono ?_; rintro e w2 ⟨rfl, hd2, ho3⟩; have c3 := hd2.map_cell; have hdl2 := hd2.blk.lt; have hfl := hd2.files; rw [stepped_files] at hfl)
    | (at_mapUpdate; refine wpList_store_file rfl _ _ _ _ rfl Dk.law Dk.u_int Dk.u_map hfl rfl n rfl hn0 hn1 s ByteArray.empty rfl ?_; intro w3 hf3 hg3))
  go_ret
  have hnf : ¬ (M.room + fsz (M.files n) < M.used + s.size) := by have := HFull.out; omega
  have ho4 : Only (fun k => k = mb) w2 w3 := (Only.refl _ w2).grown hg3 (fun k hk _ => by cases hk; rfl)
  have hok : DM.Ok { M.stepped with files := M.files.put n (s, ByteArray.empty) } := by
    have := hd2.ok.put (n := n) (f := (s, ByteArray.empty)) hn0 hn1 (by
      rw [stepped_files, stepped_room, show (M.stepped).used = M.used from by unfold DM.used; rw [stepped_files]]
      simp only [ByteArray.size_empty]
      omega)
    rw [stepped_files] at this
    exact this
  refine ⟨by simp [DM.replaceE, HX.out, hoff, hnf, hst], ?_, (ho2.of_no.trans ho3).trans (ho4.mono (fun k hk => Or.inr hk))⟩
  have e : M.replace n s = { M.stepped with files := M.files.put n (s, ByteArray.empty) } := by simp [DM.replace, HX.out, hoff, hnf, hst]
  rw [e]; exact hd2.filed ho4 hf3 hok

theorem replace_at (w : World) (d mb : Nat) (M : DM) (n : Int) (s : ByteArray) (h : DiskAt w d mb M) (hw : (Lit.int .i64 n).wf = true) (hs : s.size ≤ 9223372036854775807) :
    Calls Try.prog 12 #[.pointer (some ⟨d, 0, none⟩), .int .i64 n, .string s] w (RepEnd M n s d mb w) := by
  by_cases hn : n < 0 ∨ 16 ≤ n
  · exact replace_arg w d mb M n s h hw hn
  · cases ho : M.off with
    | true => exact replace_off w d mb M n s h (by omega) (by omega) ho
    | false =>
      by_cases hf : M.room + fsz (M.files n) < M.used + s.size
      · exact replace_full w d mb M n s h (by omega) (by omega) ho hs hf
      · cases hst : M.steps with
        | false => exact replace_dry w d mb M n s h (by omega) (by omega) ho hf hst
        | true => exact replace_go w d mb M n s h (by omega) (by omega) ho hf hst

theorem replace_nil (w : World) (n : Int) (s : ByteArray) :
    Calls Try.prog 12 #[.pointer none, .int .i64 n, .string s] w fun e w' => e = .returned (.int .i64 (if n < 0 ∨ 16 ≤ n then 1 else 10)) ∧ Only NoBlock w w' := by
  have ho := (Only.refl NoBlock w).alloc (Obj.cells #[Value.string ByteArray.empty, Value.string ByteArray.empty] 91)
  by_cases h1 : n < 0
  · go_enter Try.func12, Try.ntmps12
    go_wp2
    go_ret
    exact ⟨rfl, ho⟩
  · by_cases h2 : 16 ≤ n
    · go_enter Try.func12, Try.ntmps12
      go_wp2
      go_ret
      exact ⟨rfl, ho⟩
    · go_enter Try.func12, Try.ntmps12
      go_wp2_with (first | (go_at_call 30; refine (off_nil _).mono ?_; rintro e w1 ⟨rfl, rfl⟩))
      go_ret
      have hx : ¬ (n < 0 ∨ 16 ≤ n) := by omega
      exact ⟨rfl, ho⟩

/-! ### Files -/
def Fs.list (F : Fs) : Nat → List Int
  | 0 => []
  | k + 1 => Fs.list F k ++ (if (F k).isSome then [(k : Int)] else [])
theorem list_len (F : Fs) : ∀ k, (F.list k).length ≤ k
  | 0 => Nat.le_refl _
  | k + 1 => by
    have := list_len F k
    unfold Fs.list
    rw [List.length_append]
    split <;> simp <;> omega
theorem Dk.u_ints : Try.prog.underlying 73 = some (.slice 3) := by kernel_rfl
theorem Dk.info_int : (Try.prog.info? 3).map (fun i => (i.zero, i.size, i.bytes)) = some (some (.int .i64 0), 1, 8) := by kernel_rfl

def FilesEnd (M : DM) (d mb : Nat) (w : World) (e : Ending) (w' : World) : Prop :=
  ∃ v, e = .returned v ∧ Ints w' w.heap.size v (M.files.list 16) ∧ DiskAt w' d mb M ∧ Only NoBlock w w'
end Go.Proofs.Ytekmjhenhgmpgaa

/- The disk's call Crash. -/
namespace Go.Proofs.Ytekmjhenhgmpgaa
open Go.RowKit Go.Maps

/-- how many of its soft bytes each file keeps -/
def keepOf (l : List Int) : Int → Int := fun x => l.getD x.toNat 0

theorem crash_nil (w : World) (v : Value) :
    Calls Try.prog 27 #[.pointer none, v] w fun e w' => e = .returned (.pointer none) ∧ w = w' := by
  go_enter Try.func27, Try.ntmps27
  go_wp2
  go_ret
  exact ⟨rfl, rfl⟩

def CrashEnd (M : DM) (l : List Int) (w : World) (e : Ending) (w' : World) : Prop :=
  e = .returned (.pointer (some ⟨w.heap.size + 1, 0, none⟩)) ∧ DiskAt w' (w.heap.size + 1) w.heap.size (M.crash (keepOf l)) ∧ Only NoBlock w w'

/-- what the new disk has when L is still to come -/
def Fs.crashed (F : Fs) (l : List Int) (L : Int → Bool) : Fs := fun x => if L x = true then none else match F x with | none => none | some f => leftFile f (keepOf l x)

theorem tot_le {F G : Fs} : ∀ {n : Nat}, (∀ i : Nat, i < n → fsz (G i) ≤ fsz (F i)) → tot G n ≤ tot F n
  | 0, _ => Nat.le_refl _
  | n + 1, h => by
    unfold tot
    have := tot_le (n := n) (fun i hi => h i (by omega))
    have := h n (by omega)
    omega
theorem leftFile_le (f : File) (k : Int) : fsz (leftFile f k) ≤ f.1.size + f.2.size := by
  unfold leftFile
  simp only
  split
  · simp [fsz]
  · simp only [fsz, ByteArray.size_append, ByteArray.size_empty, ByteArray.size_extract]
    omega
theorem crashed_le (F : Fs) (l : List Int) (L : Int → Bool) (x : Int) : fsz (F.crashed l L x) ≤ fsz (F x) := by
  unfold Fs.crashed
  split
  · exact Nat.zero_le _
  · cases hx : F x with
    | none => exact Nat.le_refl _
    | some f => exact leftFile_le f _
theorem crashed_ok {M : DM} (h : M.Ok) (l : List Int) (L : Int → Bool) : DM.Ok { files := M.files.crashed l L, room := M.room, fuel := -1, off := false } := by
  have hu := h.used
  have ht : tot (M.files.crashed l L) 16 ≤ tot M.files 16 := tot_le (fun i _ => crashed_le M.files l L i)
  refine ⟨h.room0, h.room1, ?_, by simp, by simp, fun x f hf => ?_⟩
  · show ((tot (M.files.crashed l L) 16 : Nat) : Int) ≤ M.room
    unfold DM.used at hu
    omega
  · have hf' : M.files.crashed l L x = some f := hf
    unfold Fs.crashed at hf'
    split at hf'
    · cases hf'
    · cases hx : M.files x with
      | none => rw [hx] at hf'; cases hf'
      | some g => exact h.keys x g hx

theorem crashed_gone {F : Fs} {l : List Int} {L : Int → Bool} {x : Int} {f : File} (hf : F x = some f) (hL : L x = true) (hg : leftFile f (keepOf l x) = none) : F.crashed l (strike L x) = F.crashed l L := by
  funext y
  unfold Fs.crashed strike
  by_cases e : y = x
  · subst e
    simp [hL, hf, hg]
  · simp [e]
theorem crashed_stay {F : Fs} {l : List Int} {L : Int → Bool} {x : Int} {f g : File} (hf : F x = some f) (hL : L x = true) (hg : leftFile f (keepOf l x) = some g) : F.crashed l (strike L x) = (F.crashed l L).put x g := by
  funext y
  unfold Fs.crashed strike Fs.put
  by_cases e : y = x
  · subst e
    simp [hL, hf, hg]
  · simp [e]

set_option maxRecDepth 100000 in
set_option maxHeartbeats 1600000 in
theorem crash_at (w : World) (d mb : Nat) (M : DM) (ao : Option Addr) (cap : Nat) (l : List Int) (h : DiskAt w d mb M) (hl : IntsIn w ao l) :
    Calls Try.prog 27 #[.pointer (some ⟨d, 0, none⟩), .slice ao l.length cap] w (CrashEnd M l w) := by
  have c0 := h.map_cell
  have c1 := h.room_cell
  have hdl := h.blk.lt
  have hml := h.files.lt
  have hmm := @run_makeMap Try.prog
  go_enter Try.func27, Try.ntmps27
  go_wp2_with (first
    | (at_range; refine wpList_range_files rfl _ _ rfl Dk.law Dk.u_map rfl (h.files.keeps (S := NoBlock) (((Only.refl NoBlock w).alloc _).alloc _) (fun h => h)) ?_; intro w0 cnt0 hg0 ho0 hs0)
    | fail)
  go_frame
  simp only [World.size_alloc] at hg0 hs0 ⊢
  go_loopw [6] (fun _ wr => ∃ (L : Int → Bool) (cnt : Nat), Going Try.prog 3 wr mb (w.heap.size + 1 + 1) M.files L cnt ∧ DiskAt wr (w.heap.size + 1) w.heap.size { files := M.files.crashed l L, room := M.room, fuel := -1, off := false } ∧ Only NoBlock w wr)
    (fun _ wr => wr.rangeLeft mb (w.heap.size + 1 + 1))
  case atStart =>
    refine ⟨_, cnt0, hg0, ?_, (((Only.refl NoBlock w).alloc _).alloc _).trans ho0⟩
    have e : M.files.crashed l (fun x => (M.files x).isSome) = fun _ => none := by
      funext x
      unfold Fs.crashed
      cases hx : M.files x <;> simp [hx]
    rw [e]
    have hd0 : DiskAt ((w.alloc (Obj.map #[] 0)).alloc (Obj.cells #[.map (some w.heap.size), .int .i64 M.room, .int .i64 (-1), .bool false] 85)) (w.heap.size + 1) w.heap.size { files := fun _ => none, room := M.room, fuel := -1, off := false } := by
      refine ⟨?_, ?_, ?_⟩
      · have := Blk.made (w.alloc (.map #[] 0)) #[.map (some w.heap.size), .int .i64 M.room, .int .i64 (-1), .bool false] 85
        simpa using this
      · exact (FilesAt.made w Try.prog 3).keeps (S := NoBlock) ((Only.refl _ _).alloc _) (fun h => h)
      · have := crashed_ok h.ok l (fun x => (M.files x).isSome)
        rw [e] at this
        exact this
    exact hd0.keeps ho0 (fun h => h) (fun h => h)
  case round =>
    obtain ⟨L, cnt, hg, hd, ho⟩ := hrel
    go_wp2_with (first
      | (at_next; refine wpList_next_files rfl _ rfl Dk.law Dk.u_int rfl hg ?_ ?_)
      | fail)
    · intro hL
      have HL := Lib.hid hL
      clear hL
      go_wp2
      go_ret
      refine ⟨rfl, ?_, ho⟩
      have e : M.files.crashed l L = (M.crash (keepOf l)).files := by
        funext x
        unfold Fs.crashed DM.crash
        rw [HL.out]
        rfl
      rw [e] at hd
      exact hd
    · intro x fa fb w1 cnt1 hF hLx hx0 hx1 hg1 hlt ho1 hs1 hen
      have hws := ho.size
      have hne := hg.lt
      have ho2 : Only NoBlock w w1 := ho.andThen ho1 (fun i hi e => by omega)
      have hd1 := hd.keeps ho1 (by omega) (by omega)
      have k0 := hd1.map_cell
      have hdl1 := hd1.blk.lt
      have HF := Lib.hid hF
      have HLx := Lib.hid hLx
      clear hF hLx
      obtain ⟨n, rfl⟩ := Int.eq_ofNat_of_zero_le hx0
      obtain ⟨j, hj⟩ : ∃ j : Nat, j = (max 0 (min (keepOf l (n : Int)) (fb.size : Int))).toNat := ⟨_, rfl⟩
      have hjle : j ≤ fb.size := by omega
      have HJ := Lib.hid hj
      clear hj hs1 hs0 hg0 ho0
      go_upto_if 31 with (fail)
      go_cut [8] (fun s8 wx => s8 = .int .i64 (j : Int) ∧ ∃ q, wx = (w1.alloc (Obj.cells #[Value.string fa, Value.string fb] 91)).drewN q)
      case first =>
        by_cases hxl : n < l.length
        · obtain ⟨b, off, rfl, hcell⟩ := hl.cell n hxl
          have hc1 := keeps_cell ho2 (fun h => h) hcell
          have hbl : b < w1.heap.size := World.block_lt_of_cell? w1 _ hc1
          have hk : keepOf l (n : Int) = l.getD n 0 := by unfold keepOf; simp
          obtain ⟨y, hy⟩ : ∃ y, y = l.getD n 0 := ⟨_, rfl⟩
          have HJ2 : j = (max 0 (min y (fb.size : Int))).toNat := by rw [HJ.out, hk, hy]
          rw [← hy] at hc1
          clear hy hcell hl HJ hk
          have HJ := Lib.hid HJ2
          clear HJ2
          go_wp2_with fail
          go_quiet (fail)
          all_goals go_wp2_with fail
          all_goals (go_meet; exact ⟨congrArg (Value.int .i64) (by have := HJ.out; omega), _, rfl⟩)
        · have hk : keepOf l (n : Int) = 0 := by unfold keepOf; simp [List.getElem?_eq_none (Nat.le_of_not_lt hxl)]
          have hj0 : j = 0 := by rw [HJ.out, hk]; omega
          clear hk
          have HJ0 := Lib.hid hj0
          clear hj0
          go_wp2_with fail
          go_meet
          exact ⟨congrArg (Value.int .i64) (by have := HJ0.out; omega), 0, rfl⟩
      case rest =>
        obtain ⟨rfl, q, rfl⟩ := hcut
        have hn := ((Only.refl NoBlock w1).alloc (Obj.cells #[Value.string fa, Value.string fb] 91)).drewN q
        have hsz : fa.size + fb.size ≤ 1048576 := by
          have h1 := fsz_le hx0 hx1 HF.out
          have h2 := h.ok.used
          have h3 := h.ok.room1
          unfold DM.used at h2
          simp only at h1
          omega
        by_cases hgone : fa.size = 0 ∧ j = 0 ∧ fb.size ≠ 0
        · obtain ⟨e1, rfl, e3⟩ := hgone
          have ha1 := empty_of_size e1
          have hb1 := full_of_size e3
          go_wp2_with fail
          go_roundw
          case rel =>
            refine ⟨strike L n, cnt1, hg1.keeps hn (fun h => h) (fun h => h), ?_, ho2.andThen hn (fun _ _ h => h)⟩
            have e := crashed_gone (l := l) HF.out HLx.out (by
              unfold leftFile
              simp only
              rw [← HJ.out, if_pos ⟨e1, rfl, e3⟩])
            rw [e]
            exact hd1.keeps hn (fun h => h) (fun h => h)
          case measure =>
            rw [(hg1.keeps hn (fun h => h) (fun h => h)).left_eq, hg.left_eq]; exact hlt
        · have e := crashed_stay (l := l) (x := (n : Int)) (f := (fa, fb)) HF.out HLx.out (g := (fa ++ fb.extract 0 j, ByteArray.empty)) (by
            unfold leftFile
            simp only
            rw [← HJ.out, if_neg hgone])
          have HE := Lib.hid e
          clear e
          obtain ⟨g, hg⟩ : ∃ g, g = fb.extract 0 j := ⟨_, rfl⟩
          have hgs : g.size ≤ fb.size := by rw [hg, ByteArray.size_extract]; omega
          have HG := Lib.hid hg
          clear hg
          have hcat : (9223372036854775807 < fa.size + g.size) = False := by simp; omega
          have hdf := hd1.files.keeps hn (fun h => h)
          have hstep : fa.size ≠ 0 ∨ (fa.size = 0 ∧ 0 < j) ∨ (fa.size = 0 ∧ j = 0 ∧ fb.size = 0) := by omega
          rcases hstep with e1 | ⟨e1, e2⟩ | ⟨e1, e2, e3⟩
          · have ha1 := full_of_size e1
            go_wp2_with fail
            refine wp_region_tail 13 (by kernel_rfl) (by kernel_rfl) ?_
            simp only [List.take_succ_cons, List.take_zero, List.drop_succ_cons, List.drop_zero]
            repeat still_step
            rw [← HG.out]
            repeat still_step
            refine wpStill_nil ?_
            go_wp2_with (first
              | (at_mapUpdate; refine wpList_store_file rfl _ _ _ _ rfl Dk.law Dk.u_int Dk.u_map hdf.drew rfl (n : Int) rfl hx0 hx1 (fa ++ g) ByteArray.empty rfl ?_; intro w3 hf3 hg3; go_frame))
            have ho3 : Only (fun k => k = w.heap.size) w1 w3 := (hn.of_no.drew).grown hg3 (fun k hk _ => by cases hk; rfl)
            have hg4 := hg1.keeps ho3 (by omega) (by omega)
            have hd4 := hd1.filed ho3 hf3 (by rw [HG.out, ← HE.out]; exact crashed_ok h.ok l _)
            rw [HG.out, ← HE.out] at hd4
            go_roundw
            case rel => exact ⟨strike L n, cnt1, hg4, hd4, ho2.andThen ho3 (fun i hi e => by omega)⟩
            case measure => rw [hg4.left_eq, hg.left_eq]; exact hlt
          · have ha1 := empty_of_size e1
            clear e1 hgone
            go_wp2_with fail
            refine wp_region_tail 13 (by kernel_rfl) (by kernel_rfl) ?_
            simp only [List.take_succ_cons, List.take_zero, List.drop_succ_cons, List.drop_zero]
            repeat still_step
            rw [← HG.out]
            repeat still_step
            refine wpStill_nil ?_
            go_wp2_with (first
              | (at_mapUpdate; refine wpList_store_file rfl _ _ _ _ rfl Dk.law Dk.u_int Dk.u_map hdf.drew rfl (n : Int) rfl hx0 hx1 (fa ++ g) ByteArray.empty rfl ?_; intro w3 hf3 hg3; go_frame))
            have ho3 : Only (fun k => k = w.heap.size) w1 w3 := (hn.of_no.drew).grown hg3 (fun k hk _ => by cases hk; rfl)
            have hg4 := hg1.keeps ho3 (by omega) (by omega)
            have hd4 := hd1.filed ho3 hf3 (by rw [HG.out, ← HE.out]; exact crashed_ok h.ok l _)
            rw [HG.out, ← HE.out] at hd4
            go_roundw
            case rel => exact ⟨strike L n, cnt1, hg4, hd4, ho2.andThen ho3 (fun i hi e => by omega)⟩
            case measure => rw [hg4.left_eq, hg.left_eq]; exact hlt
          · have ha1 := empty_of_size e1
            have hb1 := empty_of_size e3
            subst e2
            have hg0 : g = ByteArray.empty := ByteArray.size_eq_zero_iff.1 (by omega)
            have hfg : (fa ++ g, ByteArray.empty) = (fa, ByteArray.empty) := by rw [hg0]; simp
            have hcat0 : (9223372036854775807 < fa.size) = False := by simp; omega
            rw [← HG.out, hfg] at HE
            clear e1 e3 hgone hg0 hfg
            go_wp2_with fail
            refine wp_region_tail 13 (by kernel_rfl) (by kernel_rfl) ?_
            simp only [List.take_succ_cons, List.take_zero, List.drop_succ_cons, List.drop_zero]
            repeat still_step
            refine wpStill_nil ?_
            go_wp2_with (first
              | (at_mapUpdate; refine wpList_store_file rfl _ _ _ _ rfl Dk.law Dk.u_int Dk.u_map hdf.drew rfl (n : Int) rfl hx0 hx1 fa ByteArray.empty rfl ?_; intro w3 hf3 hg3; go_frame))
            have ho3 : Only (fun k => k = w.heap.size) w1 w3 := (hn.of_no.drew).grown hg3 (fun k hk _ => by cases hk; rfl)
            have hg4 := hg1.keeps ho3 (by omega) (by omega)
            have hd4 := hd1.filed ho3 hf3 (by rw [← HE.out]; exact crashed_ok h.ok l _)
            rw [← HE.out] at hd4
            go_roundw
            case rel => exact ⟨strike L n, cnt1, hg4, hd4, ho2.andThen ho3 (fun i hi e => by omega)⟩
            case measure => rw [hg4.left_eq, hg.left_eq]; exact hlt

end Go.Proofs.Ytekmjhenhgmpgaa

/- A log in a file, in plain data: what opening, appending and laying anew answer, and what they leave of the disk. -/
namespace Go.Proofs.Ytekmjhenhgmpgaa.Wal
open Go.RowKit

def long (l : List ByteArray) : Bool := l.any (fun x => decide (65536 < x.size))
def text (l : List ByteArray) : ByteArray := textOf (frames (l.map nums))
def appE (M : DM) (n : Int) (l : List ByteArray) : Int := if long l = true then 3 else if M.appendE n (text l) = 0 then (M.append n (text l)).syncE n else M.appendE n (text l)
def app (M : DM) (n : Int) (l : List ByteArray) : DM := if long l = true then M else if M.appendE n (text l) = 0 then (M.append n (text l)).sync n else M.append n (text l)
def anewE (M : DM) (n : Int) (l : List ByteArray) : Int := if long l = true then 3 else M.replaceE n (text l)
def anew (M : DM) (n : Int) (l : List ByteArray) : DM := if long l = true then M else M.replace n (text l)
def o0E (M : DM) (n : Int) : Int := if M.readE n = 12 then M.replaceE n ByteArray.empty else M.readE n
def o0 (M : DM) (n : Int) : DM := if M.readE n = 12 then M.replace n ByteArray.empty else M
def whole (s : ByteArray) : Nat := (scan (nums s)).2
def o1E (M : DM) (n : Int) (s : ByteArray) : Int := if whole s < s.size then M.replaceE n (s.extract 0 (whole s)) else M.syncE n
def o1 (M : DM) (n : Int) (s : ByteArray) : DM := if whole s < s.size then M.replace n (s.extract 0 (whole s)) else M.sync n
def openE (M : DM) (n : Int) : Int := if n < 0 ∨ 16 ≤ n then 1 else if o0E M n = 0 then o1E (o0 M n) n (M.read n) else o0E M n
def openM (M : DM) (n : Int) : DM := if n < 0 ∨ 16 ≤ n then M else if o0E M n = 0 then o1 (o0 M n) n (M.read n) else o0 M n
def recs (s : ByteArray) : List ByteArray := (scan (nums s)).1.map textOf
def openL (M : DM) (n : Int) : List ByteArray := recs (M.read n)

theorem read_none {M : DM} {n : Int} (h : M.readE n = 12) : M.read n = ByteArray.empty := by
  unfold DM.readE at h
  unfold DM.read
  split at h
  · cases h
  · split at h
    next h1 h2 => rw [if_neg h1, if_pos h2]
    · cases h
theorem read_size {M : DM} (hM : M.Ok) (n : Int) : (M.read n).size ≤ 1048576 := by
  unfold DM.read
  split
  · exact Nat.zero_le _
  · split
    · exact Nat.zero_le _
    next h1 h2 =>
      cases hf : M.files n with
      | none => rw [hf] at h2; exact absurd rfl h2
      | some f =>
        obtain ⟨h0, h3⟩ := hM.keys n f hf
        have h4 := fsz_le h0 h3 hf
        have h5 := hM.used
        have h6 := hM.room1
        unfold DM.used at h5
        show (f.1 ++ f.2).size ≤ 1048576
        rw [ByteArray.size_append]
        omega
theorem whole_le (s : ByteArray) : whole s ≤ s.size := by
  obtain ⟨t, h1, h2, _⟩ := scan_sound (r := nums s) (nums_byte s)
  have := congrArg List.length h1
  rw [List.length_append, nums_length] at this
  unfold whole
  omega
theorem recs_few (s : ByteArray) : (recs s).length ≤ s.size := by
  have h := whole_le s
  unfold recs
  rw [List.length_map]
  obtain ⟨t, h1, h2, _⟩ := scan_sound (r := nums s) (nums_byte s)
  have h3 : ∀ l : List (List Int), l.length ≤ (frames l).length := by
    intro l
    induction l with
    | nil => simp
    | cons x r ih => rw [frames_cons, List.length_append, List.length_cons]; have := frame_pos x; omega
  have := h3 (scan (nums s)).1
  unfold whole at h
  omega
theorem text_nil : text [] = ByteArray.empty := rfl
theorem text_snoc (l : List ByteArray) (x : ByteArray) : text (l ++ [x]) = text l ++ textOf (frame (nums x)) := by
  unfold text
  rw [List.map_append, List.map_cons, List.map_nil, frames_snoc, textOf_append]
theorem text_size (l : List ByteArray) : (text l).size = (frames (l.map nums)).length := textOf_size _
theorem text_append (a b : List ByteArray) : text (a ++ b) = text a ++ text b := by
  unfold text
  rw [List.map_append, frames_append, textOf_append]
theorem text_take_le (l : List ByteArray) (k : Nat) : (text (l.take k)).size ≤ (text l).size := by
  have := text_append (l.take k) (l.drop k)
  rw [List.take_append_drop] at this
  rw [this, ByteArray.size_append]
  omega
theorem frame_in {l : List ByteArray} {k : Nat} (h : k < l.length) : (l.getD k ByteArray.empty).size ≤ (text l).size := by
  have e : l.take (k + 1) = l.take k ++ [l.getD k ByteArray.empty] := by rw [List.take_add_one, List.getElem?_eq_getElem h, List.getD_eq_getElem?_getD, List.getElem?_eq_getElem h]; rfl
  have h1 := text_take_le l (k + 1)
  rw [e, text_snoc, ByteArray.size_append, textOf_size] at h1
  have h2 := frame_pos (nums (l.getD k ByteArray.empty))
  rw [nums_length] at h2
  omega
theorem take_snoc {l : List ByteArray} {k : Nat} (h : k < l.length) : l.take (k + 1) = l.take k ++ [l.getD k ByteArray.empty] := by
  rw [List.take_add_one, List.getElem?_eq_getElem h, List.getD_eq_getElem?_getD, List.getElem?_eq_getElem h]; rfl
end Go.Proofs.Ytekmjhenhgmpgaa.Wal

/- The program's log: opening, appending, laying anew are what the plain data say. -/
namespace Go.Proofs.Ytekmjhenhgmpgaa
open Go.RowKit

/-- block g is a log of file n of the disk at d -/
def LogAt (w : World) (g d : Nat) (n : Int) : Prop := Blk w g #[.pointer (some ⟨d, 0, none⟩), .int .i64 n] 122

theorem replace_as {w : World} {d mb : Nat} {M : DM} {n : Int} {s : ByteArray} (h : DiskAt w d mb M) (hw : (Lit.int .i64 n).wf = true) (hs : s.size ≤ 9223372036854775807) {k : Int} {M' : DM} (hk : M.replaceE n s = k) (hM : M.replace n s = M') :
    Calls Try.prog 12 #[.pointer (some ⟨d, 0, none⟩), .int .i64 n, .string s] w fun e w' => e = .returned (.int .i64 k) ∧ DiskAt w' d mb M' ∧ Only (fun k => k = d ∨ k = mb) w w' := by
  subst hk; subst hM; exact replace_at w d mb M n s h hw hs
theorem append_as' {w : World} {d mb : Nat} {M : DM} {n : Int} {s : ByteArray} (h : DiskAt w d mb M) (hs : s.size ≤ 9223372036854775807) {k : Int} {M' : DM} (hk : M.appendE n s = k) (hM : M.append n s = M') :
    Calls Try.prog 76 #[.pointer (some ⟨d, 0, none⟩), .int .i64 n, .string s] w fun e w' => e = .returned (.int .i64 k) ∧ DiskAt w' d mb M' ∧ Only (fun k => k = d ∨ k = mb) w w' := by
  subst hk; subst hM; exact append_at w d mb M n s h hs
theorem sync_as' {w : World} {d mb : Nat} {M : DM} {n : Int} (h : DiskAt w d mb M) (hw : (Lit.int .i64 n).wf = true) {k : Int} {M' : DM} (hk : M.syncE n = k) (hM : M.sync n = M') :
    Calls Try.prog 61 #[.pointer (some ⟨d, 0, none⟩), .int .i64 n] w fun e w' => e = .returned (.int .i64 k) ∧ DiskAt w' d mb M' ∧ Only (fun k => k = d ∨ k = mb) w w' := by
  subst hk; subst hM; exact sync_at w d mb M n h hw
theorem read_as' {w : World} {d mb : Nat} {M : DM} {n : Int} (h : DiskAt w d mb M) (hw : (Lit.int .i64 n).wf = true) {k : Int} {s : ByteArray} (hk : M.readE n = k) (hM : M.read n = s) :
    Calls Try.prog 20 #[.pointer (some ⟨d, 0, none⟩), .int .i64 n] w fun e w' => e = .returned (.tuple #[.string s, .int .i64 k]) ∧ Only NoBlock w w' := by
  subst hk; subst hM; exact read_at w d mb M n h hw

/-- what opening leaves -/
def OpenEnd (M : DM) (n : Int) (d mb : Nat) (w : World) (e : Ending) (w' : World) : Prop :=
  ∃ p v, e = .returned (.tuple #[p, v, .int .i64 (Wal.openE M n)]) ∧ DiskAt w' d mb (Wal.openM M n) ∧ Only (fun k => k = d ∨ k = mb) w w' ∧
    ((Wal.openE M n = 0 ∧ ∃ g, p = .pointer (some ⟨g, 0, none⟩) ∧ w.heap.size ≤ g ∧ LogAt w' g d n ∧ Strs w' w.heap.size v (Wal.openL M n)) ∨ (Wal.openE M n ≠ 0 ∧ p = .pointer none ∧ v = .slice none 0 0))
theorem OpenEnd.no {M : DM} {n : Int} {d mb : Nat} {w w' : World} (x : Int) (M' : DM) (hx : Wal.openE M n = x) (hM : Wal.openM M n = M') (h0 : x ≠ 0) (hd : DiskAt w' d mb M') (ho : Only (fun k => k = d ∨ k = mb) w w') :
    OpenEnd M n d mb w (.returned (.tuple #[.pointer none, .slice none 0 0, .int .i64 x])) w' := by
  subst hx; subst hM
  exact ⟨_, _, rfl, hd, ho, .inr ⟨h0, rfl, rfl⟩⟩
theorem OpenEnd.ok {M : DM} {n : Int} {d mb : Nat} {w w' : World} (M' : DM) (hx : Wal.openE M n = 0) (hM : Wal.openM M n = M') (hd : DiskAt w' d mb M') (ho : Only (fun k => k = d ∨ k = mb) w w') (g : Nat) (v : Value) (hg : w.heap.size ≤ g) (hl : LogAt w' g d n)
    (hv : Strs w' w.heap.size v (Wal.openL M n)) : OpenEnd M n d mb w (.returned (.tuple #[.pointer (some ⟨g, 0, none⟩), v, .int .i64 0])) w' := by
  subst hM
  exact ⟨_, _, by rw [hx], hd, ho, .inl ⟨hx, g, rfl, hg, hl, hv⟩⟩

set_option maxRecDepth 100000 in
set_option maxHeartbeats 2000000 in
theorem open_at (w : World) (d mb : Nat) (M : DM) (n : Int) (h : DiskAt w d mb M) (hw : (Lit.int .i64 n).wf = true) :
    Calls Try.prog 37 #[.pointer (some ⟨d, 0, none⟩), .int .i64 n] w (OpenEnd M n d mb w) := by
  have hdl := h.blk.lt
  have hml := h.files.lt
  by_cases hn : n < 0 ∨ 16 ≤ n
  · have hE : Wal.openE M n = 1 := by unfold Wal.openE; rw [if_pos hn]
    have hM : Wal.openM M n = M := by unfold Wal.openM; rw [if_pos hn]
    have HE := Lib.hid hE
    have HM := Lib.hid hM
    clear hE hM
    rcases hn with hn | hn
    · go_enter Try.func37, Try.ntmps37
      go_wp2_with fail
      go_ret3
      exact OpenEnd.no 1 M HE.out HM.out (by decide) h (Only.refl _ _)
    · have hn0 : ¬ n < 0 := by omega
      go_enter Try.func37, Try.ntmps37
      go_wp2_with fail
      go_ret3
      exact OpenEnd.no 1 M HE.out HM.out (by decide) h (Only.refl _ _)
  · have hn0 : ¬ n < 0 := by omega
    have hn1 : ¬ 16 ≤ n := by omega
    have hE : Wal.openE M n = if Wal.o0E M n = 0 then Wal.o1E (Wal.o0 M n) n (M.read n) else Wal.o0E M n := by unfold Wal.openE; rw [if_neg hn]
    have hM : Wal.openM M n = if Wal.o0E M n = 0 then Wal.o1 (Wal.o0 M n) n (M.read n) else Wal.o0 M n := by unfold Wal.openM; rw [if_neg hn]
    have HE := Lib.hid hE
    have HM := Lib.hid hM
    have hsz := Wal.read_size h.ok n
    clear hE hM hn
    go_enter Try.func37, Try.ntmps37
    go_wp2_with fail
    obtain ⟨s, HS⟩ : ∃ s, RowKit.Hid (M.read n = s) := ⟨_, Lib.hid rfl⟩
    obtain ⟨k, HK⟩ : ∃ k, RowKit.Hid (M.readE n = k) := ⟨_, Lib.hid rfl⟩
    rw [HS.out] at hsz
    refine (read_as' h hw HK.out HS.out).mono ?_
    rintro e w1 ⟨rfl, ho1⟩
    have hd1 := h.keeps ho1 (fun h => h) (fun h => h)
    go_upto_if 24 with (fail)
    go_cut [7, 8] (fun v7 v8 wx => ∃ x : Int, v7 = .string s ∧ v8 = .int .i64 x ∧ DiskAt wx d mb (Wal.o0 M n) ∧ Only (fun k => k = d ∨ k = mb) w wx ∧ RowKit.Hid (Wal.o0E M n = x))
    case first =>
      by_cases hk : k = 12
      · subst hk
        have hs0 : s = ByteArray.empty := by rw [← HS.out]; exact Wal.read_none HK.out
        subst hs0
        go_wp2_with (first
          | (go_at_call 12; refine (replace_as hd1 hw (by decide) rfl rfl).mono ?_; rintro e w2 ⟨rfl, hd2, ho2⟩))
        go_meet
        exact ⟨_, rfl, rfl, by rw [show Wal.o0 M n = M.replace n ByteArray.empty from by unfold Wal.o0; rw [if_pos HK.out]]; exact hd2, ho1.of_no.trans ho2, Lib.hid (by unfold Wal.o0E; rw [if_pos HK.out]; rfl)⟩
      · have hkb : (k == 12) = false := by simpa using hk
        have hk' : ¬ M.readE n = 12 := by rw [HK.out]; exact hk
        have HK' := Lib.hid hk'
        clear hk hk'
        go_wp2_with fail
        go_meet
        exact ⟨k, rfl, rfl, by rw [show Wal.o0 M n = M from by unfold Wal.o0; rw [if_neg HK'.out]]; exact hd1, ho1.of_no, Lib.hid (by unfold Wal.o0E; rw [if_neg HK'.out]; exact HK.out)⟩
    case rest =>
      obtain ⟨x, rfl, rfl, hd2, ho2, HX⟩ := hcut
      by_cases hx : x = 0
      · subst hx
        have hE2 : Wal.openE M n = Wal.o1E (Wal.o0 M n) n s := by rw [HE.out, if_pos HX.out, HS.out]
        have hM2 : Wal.openM M n = Wal.o1 (Wal.o0 M n) n s := by rw [HM.out, if_pos HX.out, HS.out]
        have HE2 := Lib.hid hE2
        have HM2 := Lib.hid hM2
        clear HE HM hE2 hM2
        go_wp2_with fail
        refine (scan_at _ s (by omega)).mono ?_
        rintro e w3 ⟨v, rfl, hv3, ho3⟩
        have hd3 := hd2.keeps ho3 (fun h => h) (fun h => h)
        have hwl := Wal.whole_le s
        have HL : RowKit.Hid (Wal.openL M n = (Wal.scan (nums s)).1.map textOf) := Lib.hid (by unfold Wal.openL Wal.recs; rw [HS.out])
        rw [← HL.out] at hv3
        replace hv3 : Strs w3 w.heap.size v (Wal.openL M n) := hv3.lower ho2.size
        have hdx : ∀ k, (k = d ∨ k = mb) → k < w.heap.size := by rintro k (rfl | rfl) <;> assumption
        have HDX := Lib.hid hdx
        clear hdx
        rw [show (Wal.scan (nums s)).2 = Wal.whole s from rfl]
        go_upto_if 39 with (fail)
        go_cut [8] (fun v8 wx => v8 = .int .i64 (Wal.o1E (Wal.o0 M n) n s) ∧ DiskAt wx d mb (Wal.o1 (Wal.o0 M n) n s) ∧ Only (fun k => k = d ∨ k = mb) w wx ∧ Strs wx w.heap.size v (Wal.openL M n))
        case first =>
          by_cases hlt : Wal.whole s < s.size
          · have hE3 : Wal.o1E (Wal.o0 M n) n s = (Wal.o0 M n).replaceE n (s.extract 0 (Wal.whole s)) := by unfold Wal.o1E; rw [if_pos hlt]
            have hM3 : Wal.o1 (Wal.o0 M n) n s = (Wal.o0 M n).replace n (s.extract 0 (Wal.whole s)) := by unfold Wal.o1; rw [if_pos hlt]
            have HE3 := Lib.hid hE3
            have HM3 := Lib.hid hM3
            clear hE3 hM3
            go_wp2_with (first
              | (go_at_call 12; refine (replace_as hd3 hw (by simp; omega) HE3.out.symm HM3.out.symm).mono ?_; rintro e w4 ⟨rfl, hd4, ho4⟩))
            go_meet
            exact ⟨rfl, hd4, (ho2.trans ho3.of_no).trans ho4, hv3.keeps2 ho4 HDX.out⟩
          · have hE3 : Wal.o1E (Wal.o0 M n) n s = (Wal.o0 M n).syncE n := by unfold Wal.o1E; rw [if_neg hlt]
            have hM3 : Wal.o1 (Wal.o0 M n) n s = (Wal.o0 M n).sync n := by unfold Wal.o1; rw [if_neg hlt]
            have HE3 := Lib.hid hE3
            have HM3 := Lib.hid hM3
            clear hE3 hM3
            go_wp2_with (first
              | (go_at_call 61; refine (sync_as' hd3 hw HE3.out.symm HM3.out.symm).mono ?_; rintro e w4 ⟨rfl, hd4, ho4⟩))
            go_meet
            exact ⟨rfl, hd4, (ho2.trans ho3.of_no).trans ho4, hv3.keeps2 ho4 HDX.out⟩
        case rest =>
          obtain ⟨rfl, hd5, ho5, hv5⟩ := hcut
          by_cases hz : Wal.o1E (Wal.o0 M n) n s = 0
          · have HZ := Lib.hid hz
            clear hz
            rw [HZ.out]
            go_wp2_with fail
            go_ret3
            exact OpenEnd.ok _ (by rw [HE2.out, HZ.out]) HM2.out (hd5.keeps ((Only.refl NoBlock _).alloc _) (fun h => h) (fun h => h)) (ho5.alloc _) _ v ho5.size (Blk.made _ _ _) (hv5.keeps ((Only.refl NoBlock _).alloc _) (fun _ _ h => h))
          · have hzb : (Wal.o1E (Wal.o0 M n) n s != 0) = true := by simpa using hz
            have HZ := Lib.hid hz
            clear hz
            go_wp2_with fail
            go_ret3
            exact OpenEnd.no _ _ HE2.out HM2.out HZ.out hd5 ho5
      · have hE2 : Wal.openE M n = x := by rw [HE.out, if_neg (by rw [HX.out]; exact hx), HX.out]
        have hM2 : Wal.openM M n = Wal.o0 M n := by rw [HM.out, if_neg (by rw [HX.out]; exact hx)]
        have HE2 := Lib.hid hE2
        have HM2 := Lib.hid hM2
        have HX0 := Lib.hid hx
        have hxb : (x != 0) = true := by simpa using hx
        clear HE HM hE2 hM2 hx
        go_wp2_with fail
        go_ret3
        exact OpenEnd.no _ _ HE2.out HM2.out HX0.out hd2 ho2

theorem opened_nil (w : World) (n : Int) :
    Calls Try.prog 37 #[.pointer none, .int .i64 n] w fun e w' => e = .returned (.tuple #[.pointer none, .slice none 0 0, .int .i64 (if n < 0 ∨ 16 ≤ n then 1 else 10)]) ∧ Only NoBlock w w' := by
  by_cases hn : n < 0 ∨ 16 ≤ n
  · rcases hn with hn | hn
    · go_enter Try.func37, Try.ntmps37
      go_wp2_with fail
      go_ret3
      exact ⟨rfl, Only.refl _ _⟩
    · have hn0 : ¬ n < 0 := by omega
      go_enter Try.func37, Try.ntmps37
      go_wp2_with fail
      go_ret3
      exact ⟨rfl, Only.refl _ _⟩
  · have hn0 : ¬ n < 0 := by omega
    have hn1 : ¬ 16 ≤ n := by omega
    clear hn
    go_enter Try.func37, Try.ntmps37
    go_wp2_with fail
    refine (read_nil w n).mono ?_
    rintro e w1 ⟨rfl, rfl⟩
    go_wp2_with fail
    go_ret3
    exact ⟨rfl, Only.refl _ _⟩

theorem LogAt.apart {w : World} {g d mb : Nat} {n : Int} {M : DM} (h : LogAt w g d n) (hd : DiskAt w d mb M) : g ≠ d ∧ g ≠ mb := by
  unfold LogAt Blk at h
  refine ⟨?_, ?_⟩
  · intro e
    have := hd.blk
    unfold Blk at this
    rw [← e, h] at this
    cases this
  · intro e
    obtain ⟨D, ⟨es, clock, hb, _⟩, _⟩ := hd.files
    rw [← e, h] at hb
    cases hb

def LogEnd (k : Int) (M' : DM) (d mb : Nat) (w : World) (e : Ending) (w' : World) : Prop :=
  e = .returned (.int .i64 k) ∧ DiskAt w' d mb M' ∧ Only (fun k => k = d ∨ k = mb) w w'

namespace Wal
theorem long_at {l : List ByteArray} {k : Nat} (h : k < l.length) (hl : 65536 < (l.getD k ByteArray.empty).size) : long l = true := by
  unfold long
  rw [List.any_eq_true]
  rw [List.getD_eq_getElem?_getD, List.getElem?_eq_getElem h] at hl
  exact ⟨l[k], List.getElem_mem h, by simpa using hl⟩
theorem long_none {l : List ByteArray} (h : ∀ i, i < l.length → (l.getD i ByteArray.empty).size ≤ 65536) : long l = false := by
  unfold long
  rw [List.any_eq_false]
  intro x hx
  obtain ⟨i, hi, rfl⟩ := List.mem_iff_getElem.1 hx
  have := h i hi
  rw [List.getD_eq_getElem?_getD, List.getElem?_eq_getElem hi] at this
  simpa using this
end Wal

set_option maxRecDepth 100000 in
set_option maxHeartbeats 2000000 in
theorem log_append_at (w : World) (g d mb : Nat) (M : DM) (n : Int) (ao : Option Addr) (cap : Nat) (l : List ByteArray) (h : DiskAt w d mb M) (hg : LogAt w g d n) (hw : (Lit.int .i64 n).wf = true) (hl : StrsIn w ao l) (hsz : (Wal.text l).size ≤ 1000000000) :
    Calls Try.prog 49 #[.pointer (some ⟨g, 0, none⟩), .slice ao l.length cap] w (LogEnd (Wal.appE M n l) (Wal.app M n l) d mb w) := by
  obtain ⟨hgd, hgm⟩ := hg.apart h
  have hlm := hl.len
  unfold maxLen at hlm
  have hgl : g < w.heap.size := hg.lt
  go_enter Try.func49, Try.ntmps49
  go_wp2_with fail
  go_loopw [5, 13] (fun v5 i wr => ∃ k : Nat, k ≤ l.length ∧ i = .int .i64 k ∧ v5 = .string (Wal.text (l.take k)) ∧ Only NoBlock w wr ∧ RowKit.Hid (∀ j, j < k → (l.getD j ByteArray.empty).size ≤ 65536)) (fun _ i _ => l.length - (intOf i).toNat)
  case atStart => exact ⟨0, by omega, rfl, rfl, Only.refl _ _, Lib.hid (fun j hj => by omega)⟩
  case round =>
    obtain ⟨k, hk, rfl, rfl, ho, HS⟩ := hrel
    by_cases hlt : k < l.length
    · obtain ⟨b, off, rfl, hcell⟩ := (hl.keeps ho (fun _ _ h => h)).at hlt
      have hts := Wal.take_snoc hlt
      have htx : Wal.text (l.take (k + 1)) = Wal.text (l.take k) ++ textOf (Wal.frame (nums (l.getD k ByteArray.empty))) := by rw [hts, Wal.text_snoc]
      have hfi := Wal.frame_in hlt
      have htl := Wal.text_take_le l (k + 1)
      rw [htx, ByteArray.size_append] at htl
      have HT := Lib.hid htx
      clear htx hts
      by_cases hbig : 65536 < (l.getD k ByteArray.empty).size
      · have hlong := Wal.long_at hlt hbig
        have hE : Wal.appE M n l = 3 := by unfold Wal.appE; rw [if_pos hlong]
        have hM : Wal.app M n l = M := by unfold Wal.app; rw [if_pos hlong]
        have HE := Lib.hid hE
        have HM := Lib.hid hM
        clear hE hM hlong
        generalize l.getD k ByteArray.empty = x at hcell hfi htl hbig
        go_wp2_with fail
        go_ret
        exact ⟨by rw [HE.out]; rfl, by rw [HM.out]; exact h.keeps ho (fun h => h) (fun h => h), ho.of_no⟩
      · have HB : RowKit.Hid ((l.getD k ByteArray.empty).size ≤ 65536) := Lib.hid (by omega)
        generalize hx : l.getD k ByteArray.empty = x at hcell hfi htl hbig HT HB
        have HX := Lib.hid hx
        clear hx
        have hcat : (9223372036854775807 < (Wal.text (l.take k)).size + (textOf (Wal.frame (nums x))).size) = False := by simp; omega
        go_wp2_with (first
          | (go_at_call 75; refine (frame_at _ x (by omega)).mono ?_; rintro e w2 ⟨rfl, ho2⟩))
        go_roundw
        case rel =>
          refine ⟨k + 1, by omega, by go_num, by rw [HT.out], ho.trans ho2, Lib.hid ?_⟩
          intro j hj
          rcases Nat.lt_or_ge j k with hj2 | hj2
          · exact HS.out j hj2
          · obtain rfl : j = k := by omega
            rw [HX.out]
            exact HB.out
        case measure => simp [intOf]; omega
    · obtain rfl : k = l.length := by omega
      have hlong : Wal.long l = false := Wal.long_none HS.out
      have hE : Wal.appE M n l = if M.appendE n (Wal.text l) = 0 then (M.append n (Wal.text l)).syncE n else M.appendE n (Wal.text l) := by unfold Wal.appE; rw [hlong, if_neg (by decide)]
      have hM : Wal.app M n l = if M.appendE n (Wal.text l) = 0 then (M.append n (Wal.text l)).sync n else M.append n (Wal.text l) := by unfold Wal.app; rw [hlong, if_neg (by decide)]
      have HE := Lib.hid hE
      have HM := Lib.hid hM
      clear hE hM hlong
      rw [List.take_length]
      have hg2 := hg.keeps ho (fun h => h)
      have c0 := hg2.cell 0
      have c1 := hg2.cell 1
      simp at c0 c1
      have hd2 := h.keeps ho (fun h => h) (fun h => h)
      go_wp2_with fail
      refine wp_region_tail 9 (by kernel_rfl) (by kernel_rfl) ?_
      simp only [List.take_succ_cons, List.take_zero, List.drop_succ_cons, List.drop_zero]
      repeat still_step
      refine wpStill_nil ?_
      go_wp2_with fail
      refine (append_as' hd2.drew (by omega) rfl rfl).mono ?_
      rintro e w3 ⟨rfl, hd3, ho3⟩
      have hg3 : Blk w3 g _ _ := (Blk.drew hg2).keeps ho3 (fun e => e.elim hgd hgm)
      have c0 := hg3.cell 0
      have c1 := hg3.cell 1
      simp at c0 c1
      by_cases hz : M.appendE n (Wal.text l) = 0
      · rw [hz]
        rw [if_pos hz] at HE HM
        clear hz
        go_wp2_with fail
        refine wp_region_tail 8 (by kernel_rfl) (by kernel_rfl) ?_
        simp only [List.take_succ_cons, List.take_zero, List.drop_succ_cons, List.drop_zero]
        repeat still_step
        refine wpStill_nil ?_
        go_wp2_with fail
        refine (sync_as' hd3.drew hw rfl rfl).mono ?_
        rintro e w4 ⟨rfl, hd4, ho4⟩
        go_wp2_with fail
        go_ret
        exact ⟨by rw [HE.out]; rfl, by rw [HM.out]; exact hd4, ((ho.of_no.drew).trans ho3).drew.trans ho4⟩
      · have hzb : (M.appendE n (Wal.text l) != 0) = true := by simpa using hz
        rw [if_neg hz] at HE HM
        clear hz
        go_wp2_with fail
        go_ret
        exact ⟨by rw [HE.out]; rfl, by rw [HM.out]; exact hd3, (ho.of_no.drew).trans ho3⟩

set_option maxRecDepth 100000 in
set_option maxHeartbeats 2000000 in
theorem log_anew_at (w : World) (g d mb : Nat) (M : DM) (n : Int) (ao : Option Addr) (cap : Nat) (l : List ByteArray) (h : DiskAt w d mb M) (hg : LogAt w g d n) (hw : (Lit.int .i64 n).wf = true) (hl : StrsIn w ao l) (hsz : (Wal.text l).size ≤ 1000000000) :
    Calls Try.prog 52 #[.pointer (some ⟨g, 0, none⟩), .slice ao l.length cap] w (LogEnd (Wal.anewE M n l) (Wal.anew M n l) d mb w) := by
  obtain ⟨hgd, hgm⟩ := hg.apart h
  have hlm := hl.len
  unfold maxLen at hlm
  have hgl : g < w.heap.size := hg.lt
  go_enter Try.func52, Try.ntmps52
  go_wp2_with fail
  go_loopw [5, 12] (fun v5 i wr => ∃ k : Nat, k ≤ l.length ∧ i = .int .i64 k ∧ v5 = .string (Wal.text (l.take k)) ∧ Only NoBlock w wr ∧ RowKit.Hid (∀ j, j < k → (l.getD j ByteArray.empty).size ≤ 65536)) (fun _ i _ => l.length - (intOf i).toNat)
  case atStart => exact ⟨0, by omega, rfl, rfl, Only.refl _ _, Lib.hid (fun j hj => by omega)⟩
  case round =>
    obtain ⟨k, hk, rfl, rfl, ho, HS⟩ := hrel
    by_cases hlt : k < l.length
    · obtain ⟨b, off, rfl, hcell⟩ := (hl.keeps ho (fun _ _ h => h)).at hlt
      have hts := Wal.take_snoc hlt
      have htx : Wal.text (l.take (k + 1)) = Wal.text (l.take k) ++ textOf (Wal.frame (nums (l.getD k ByteArray.empty))) := by rw [hts, Wal.text_snoc]
      have hfi := Wal.frame_in hlt
      have htl := Wal.text_take_le l (k + 1)
      rw [htx, ByteArray.size_append] at htl
      have HT := Lib.hid htx
      clear htx hts
      by_cases hbig : 65536 < (l.getD k ByteArray.empty).size
      · have hlong := Wal.long_at hlt hbig
        have hE : Wal.anewE M n l = 3 := by unfold Wal.anewE; rw [if_pos hlong]
        have hM : Wal.anew M n l = M := by unfold Wal.anew; rw [if_pos hlong]
        have HE := Lib.hid hE
        have HM := Lib.hid hM
        clear hE hM hlong
        generalize l.getD k ByteArray.empty = x at hcell hfi htl hbig
        go_wp2_with fail
        go_ret
        exact ⟨by rw [HE.out]; rfl, by rw [HM.out]; exact h.keeps ho (fun h => h) (fun h => h), ho.of_no⟩
      · have HB : RowKit.Hid ((l.getD k ByteArray.empty).size ≤ 65536) := Lib.hid (by omega)
        generalize hx : l.getD k ByteArray.empty = x at hcell hfi htl hbig HT HB
        have HX := Lib.hid hx
        clear hx
        have hcat : (9223372036854775807 < (Wal.text (l.take k)).size + (textOf (Wal.frame (nums x))).size) = False := by simp; omega
        go_wp2_with (first
          | (go_at_call 75; refine (frame_at _ x (by omega)).mono ?_; rintro e w2 ⟨rfl, ho2⟩))
        go_roundw
        case rel =>
          refine ⟨k + 1, by omega, by go_num, by rw [HT.out], ho.trans ho2, Lib.hid ?_⟩
          intro j hj
          rcases Nat.lt_or_ge j k with hj2 | hj2
          · exact HS.out j hj2
          · obtain rfl : j = k := by omega
            rw [HX.out]
            exact HB.out
        case measure => simp [intOf]; omega
    · obtain rfl : k = l.length := by omega
      have hlong : Wal.long l = false := Wal.long_none HS.out
      have hE : Wal.anewE M n l = M.replaceE n (Wal.text l) := by unfold Wal.anewE; rw [hlong, if_neg (by decide)]
      have hM : Wal.anew M n l = M.replace n (Wal.text l) := by unfold Wal.anew; rw [hlong, if_neg (by decide)]
      have HE := Lib.hid hE
      have HM := Lib.hid hM
      clear hE hM hlong
      rw [List.take_length]
      have hg2 := hg.keeps ho (fun h => h)
      have c0 := hg2.cell 0
      have c1 := hg2.cell 1
      simp at c0 c1
      have hd2 := h.keeps ho (fun h => h) (fun h => h)
      go_wp2_with fail
      refine wp_region_tail 9 (by kernel_rfl) (by kernel_rfl) ?_
      simp only [List.take_succ_cons, List.take_zero, List.drop_succ_cons, List.drop_zero]
      repeat still_step
      refine wpStill_nil ?_
      go_wp2_with fail
      refine (replace_as hd2.drew hw (by omega) rfl rfl).mono ?_
      rintro e w3 ⟨rfl, hd3, ho3⟩
      go_wp2_with fail
      go_ret
      exact ⟨by rw [HE.out]; rfl, by rw [HM.out]; exact hd3, (ho.of_no.drew).trans ho3⟩

theorem log_append_nil (w : World) (v : Value) :
    Calls Try.prog 49 #[.pointer none, v] w fun e w' => e = .returned (.int .i64 10) ∧ w = w' := by
  go_enter Try.func49, Try.ntmps49
  go_wp2_with fail
  go_ret
  exact ⟨rfl, rfl⟩
theorem log_anew_nil (w : World) (v : Value) :
    Calls Try.prog 52 #[.pointer none, v] w fun e w' => e = .returned (.int .i64 10) ∧ w = w' := by
  go_enter Try.func52, Try.ntmps52
  go_wp2_with fail
  go_ret
  exact ⟨rfl, rfl⟩

end Go.Proofs.Ytekmjhenhgmpgaa

/- The disk's calls with what they answer and leave given by equations; the anchor of the disk's statements holds. -/
namespace Go.Proofs.Ytekmjhenhgmpgaa
open Go.RowKit Go.Maps

theorem append_as {w : World} {d mb : Nat} {M : DM} {n : Int} {s : ByteArray} (h : DiskAt w d mb M) (hs : s.size ≤ 9223372036854775807) {k : Int} {M' : DM} (hk : M.appendE n s = k) (hM : M.append n s = M') :
    Calls Try.prog 76 #[.pointer (some ⟨d, 0, none⟩), .int .i64 n, .string s] w fun e w' => e = .returned (.int .i64 k) ∧ DiskAt w' d mb M' ∧ Only (fun k => k = d ∨ k = mb) w w' := by
  subst hk; subst hM; exact append_at w d mb M n s h hs
theorem sync_as {w : World} {d mb : Nat} {M : DM} {n : Int} (h : DiskAt w d mb M) (hw : (Lit.int .i64 n).wf = true) {k : Int} {M' : DM} (hk : M.syncE n = k) (hM : M.sync n = M') :
    Calls Try.prog 61 #[.pointer (some ⟨d, 0, none⟩), .int .i64 n] w fun e w' => e = .returned (.int .i64 k) ∧ DiskAt w' d mb M' ∧ Only (fun k => k = d ∨ k = mb) w w' := by
  subst hk; subst hM; exact sync_at w d mb M n h hw
theorem read_as {w : World} {d mb : Nat} {M : DM} {n : Int} (h : DiskAt w d mb M) (hw : (Lit.int .i64 n).wf = true) {k : Int} {s : ByteArray} (hk : M.readE n = k) (hM : M.read n = s) :
    Calls Try.prog 20 #[.pointer (some ⟨d, 0, none⟩), .int .i64 n] w fun e w' => e = .returned (.tuple #[.string s, .int .i64 k]) ∧ Only NoBlock w w' := by
  subst hk; subst hM; exact read_at w d mb M n h hw
theorem used_as {w : World} {d mb : Nat} {M : DM} (h : DiskAt w d mb M) {k : Nat} (hk : M.used = k) :
    Calls Try.prog 31 #[.pointer (some ⟨d, 0, none⟩)] w fun e w' => e = .returned (.int .i64 k) ∧ DiskAt w' d mb M ∧ Only NoBlock w w' := by
  subst hk; exact used_at w d mb M h

theorem off_as {w : World} {d mb : Nat} {M : DM} (h : DiskAt w d mb M) {b : Bool} (hb : M.off = b) :
    Calls Try.prog 30 #[.pointer (some ⟨d, 0, none⟩)] w fun e w' => e = .returned (.bool b) ∧ w = w' := by
  subst hb; exact off_at w d mb M h
theorem crash_as {w : World} {d mb : Nat} {M : DM} {ao : Option Addr} {cap len : Nat} {l : List Int} (h : DiskAt w d mb M) (hl : IntsIn w ao l) (hlen : l.length = len) {M' : DM} (hM : M.crash (keepOf l) = M') :
    Calls Try.prog 27 #[.pointer (some ⟨d, 0, none⟩), .slice ao len cap] w fun e w' => e = .returned (.pointer (some ⟨w.heap.size + 1, 0, none⟩)) ∧ DiskAt w' (w.heap.size + 1) w.heap.size M' ∧ Only NoBlock w w' := by
  subst hlen; subst hM; exact crash_at w d mb M ao cap l h hl
theorem ints_one (w : World) (x : Int) (hx : (Lit.int .i64 x).wf = true) (t : TypeId) : IntsIn (w.alloc (.cells #[.int .i64 x] t)) (some ⟨w.heap.size, 0, none⟩) [x] := by
  refine ⟨by simpa using hx, by simp [maxLen], fun i hi => ⟨w.heap.size, 0, rfl, ?_⟩⟩
  have hi0 : i = 0 := by simp at hi; omega
  subst hi0
  simp

namespace Bg
def ab : ByteArray := ⟨#[97, 98]⟩
def cd : ByteArray := ⟨#[99, 100]⟩
def M0 : DM := DM.new 10
def M1 : DM := M0.append 0 ab
def M2 : DM := M1.sync 0
def M3 : DM := M2.append 0 cd
def M4 : DM := M3.crash (keepOf [1])
theorem e1 : M0.appendE 0 ab = 0 := by decide +kernel
theorem e2 : M1.syncE 0 = 0 := by decide +kernel
theorem e3 : M2.appendE 0 cd = 0 := by decide +kernel
theorem e4 : M4.readE 0 = 0 := by decide +kernel
theorem e5 : M4.read 0 = ⟨#[97, 98, 99]⟩ := by decide +kernel
theorem e6 : M3.used = 4 := by decide +kernel
end Bg

end Go.Proofs.Ytekmjhenhgmpgaa
