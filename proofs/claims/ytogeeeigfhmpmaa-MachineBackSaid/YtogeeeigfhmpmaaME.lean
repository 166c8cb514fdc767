/- What the statements of this seat lean on, part E: what the program's and the document's functions compute, in plain data. -/
import Derived.Test.YtogeeeigfhmpmaaMD
import Derived.Test.YtogeeeigfhmpmaaProg
import Derived.ProofKit
import Derived.Deep.Slices
import Derived.Deep.Fields
import Derived.ChangeSame
import Derived.Shelf.GgSortFunc.Small
import Derived.Shelf.GgSortFunc.Whole
import Derived.Shelf.GgSortFunc.Tiny
import Derived.Lib.OwnBridge
import Derived.Lib.RowBridge
import Derived.Sort.LotA
import Derived.SliceStrings
import Derived.SizedLaws
import Derived.OpenShut

/- Rows of numbers: of a call's own, appended to, and read. -/
namespace Go.Proofs.Ytogeeeigfhmpmaa
open Go.RowKit

/-- a slice of the call's own that holds these numbers -/
def Ints (w : World) (base : Nat) (v : Value) (l : List Int) : Prop := w.ownsRow base 3 1 v l.length (l.map (Value.int .i64))

/-- a slice of numbers that is read: whose cells hold these -/
structure IntsIn (w : World) (ao : Option Addr) (l : List Int) : Prop where
  wf : ∀ x ∈ l, (Lit.int .i64 x).wf = true
  len : l.length ≤ maxLen
  cell : ∀ i, i < l.length → ∃ b off, ao = some ⟨b, off, none⟩ ∧ w.cell? ⟨b, off + i, none⟩ = some (.int .i64 (l.getD i 0))

theorem IntsIn.stay {S : Nat → Prop} {w w' : World} {ao : Option Addr} {l : List Int} (h : IntsIn w ao l) (ho : Only S w w') (hs : ∀ a, ao = some a → ¬ S a.block) : IntsIn w' ao l :=
  ⟨h.wf, h.len, fun i hi => by
    obtain ⟨b, off, e, hc⟩ := h.cell i hi
    refine ⟨b, off, e, ?_⟩
    have hlt : b < w.heap.size := World.block_lt_of_cell? w _ hc
    have hb := ho.block b hlt (hs ⟨b, off, none⟩ e)
    rw [← hc]
    simp [World.cell?, hb]⟩

theorem Ints.read {w : World} {base : Nat} {v : Value} {l : List Int} (h : Ints w base v l) (hl : l.length ≤ maxLen) (hw : ∀ x ∈ l, (Lit.int .i64 x).wf = true) : ∃ ao cap, v = .slice ao l.length cap ∧ IntsIn w ao l := by
  have h0 := h
  unfold Ints at h0
  rcases h.2 with ⟨rfl, h1⟩ | ⟨g, cap, cur, rfl, _⟩
  · have : l = [] := List.length_eq_zero_iff.1 h1
    subst this
    exact ⟨none, 0, rfl, hw, hl, fun i hi => absurd hi (by simp)⟩
  · refine ⟨_, cap, rfl, hw, hl, fun i hi => ⟨g, 0, rfl, ?_⟩⟩
    rw [Nat.zero_add, h0.cellAt i (by omega), List.getElem?_map, List.getElem?_eq_getElem hi]
    simp [List.getD, hi]

namespace Nu
theorem info : (Try.prog.info? 3).map (fun i => (i.zero, i.size, i.bytes)) = some (some (.int .i64 0), 1, 8) := by kernel_rfl
end Nu

section
variable {w w' : World} {base : Nat} {v : Value} {l : List Int}
theorem Ints.keeps' {S : Nat → Prop} (h : Ints w base v l) (ho : Only S w w') (hs : ∀ k, v.ownBlock = some k → ¬ S k) : Ints w' base v l := row_keeps h ho hs
theorem Ints.nil' (w : World) (base : Nat) : Ints w base (.slice none 0 0) [] := World.ownsRow_nil _ _ _ _
theorem Ints.shape (h : Ints w base v l) : ∃ ao cap, v = .slice ao l.length cap := by
  rcases h.2 with ⟨h1, h0⟩ | ⟨g, cap, cur, rfl, hb, _, hn, hm, _⟩
  · exact ⟨none, 0, by rw [h1, h0]⟩
  · exact ⟨_, cap, rfl⟩
theorem Ints.at' {ao : Option Addr} {cap : Nat} (h : Ints w base (.slice ao l.length cap) l) {k : Nat} (hk : k < l.length) : ∃ b off, ao = some ⟨b, off, none⟩ ∧ w.cell? ⟨b, off + k, none⟩ = some (.int .i64 (l.getD k 0)) := by
  rcases h.2 with ⟨h1, h0⟩ | ⟨g, cap', cur, h1, hb, hg, hn, hm, _, ht⟩
  · omega
  · simp only [Value.slice.injEq] at h1
    obtain ⟨rfl, _, rfl⟩ := h1
    refine ⟨g, 0, rfl, ?_⟩
    rw [Nat.zero_add]
    have := World.ownsRow.cellAt h k (by simpa using hk)
    rw [this, List.getElem?_map, List.getElem?_eq_getElem hk]
    simp [List.getD, hk]
theorem Ints.lenLe {ao : Option Addr} {cap : Nat} (h : Ints w base (.slice ao l.length cap) l) : l.length ≤ cap ∧ cap ≤ maxLen := by
  rcases h.2 with ⟨h1, h0⟩ | ⟨g, cap', cur, h1, hb, hg, hn, hm, _, ht⟩
  · simp only [Value.slice.injEq] at h1
    exact ⟨by omega, by rw [h1.2.2]; unfold maxLen; omega⟩
  · simp only [Value.slice.injEq] at h1
    obtain ⟨rfl, _, rfl⟩ := h1
    exact ⟨hn, hm⟩
theorem cell_int (w : World) (c : Int) (t : TypeId) (n : Nat) (hn : n = w.heap.size) : (w.alloc (.cells #[.int .i64 c] t)).cell? ⟨n, 0, none⟩ = some (.int .i64 c) := by
  subst hn
  rw [(Blk.made w _ _).cell]; rfl
end

section
variable {ops : Array Oper} {rest : List Oper} {o : Oper} {a : Act} {Q : Exit → Act → World → Prop}
end
end Go.Proofs.Ytogeeeigfhmpmaa

/- Rows of unsigned numbers: of a call's own, appended to, and read. -/
namespace Go.Proofs.Ytogeeeigfhmpmaa
open Go.RowKit
set_option maxRecDepth 100000

/-- a slice of the call's own that holds these numbers -/
def U64s (w : World) (base : Nat) (v : Value) (l : List Int) : Prop := w.ownsRow base 28 1 v l.length (l.map (Value.int .u64))

/-- a slice of numbers that is read: whose cells hold these -/
structure U64In (w : World) (ao : Option Addr) (l : List Int) : Prop where
  wf : ∀ x ∈ l, (Lit.int .u64 x).wf = true
  len : l.length ≤ maxLen
  cell : ∀ i, i < l.length → ∃ b off, ao = some ⟨b, off, none⟩ ∧ w.cell? ⟨b, off + i, none⟩ = some (.int .u64 (l.getD i 0))

theorem U64In.stay {S : Nat → Prop} {w w' : World} {ao : Option Addr} {l : List Int} (h : U64In w ao l) (ho : Only S w w') (hs : ∀ a, ao = some a → ¬ S a.block) : U64In w' ao l :=
  ⟨h.wf, h.len, fun i hi => by
    obtain ⟨b, off, e, hc⟩ := h.cell i hi
    refine ⟨b, off, e, ?_⟩
    have hlt : b < w.heap.size := World.block_lt_of_cell? w _ hc
    have hb := ho.block b hlt (hs ⟨b, off, none⟩ e)
    rw [← hc]
    simp [World.cell?, hb]⟩

theorem U64s.read {w : World} {base : Nat} {v : Value} {l : List Int} (h : U64s w base v l) (hl : l.length ≤ maxLen) (hw : ∀ x ∈ l, (Lit.int .u64 x).wf = true) : ∃ ao cap, v = .slice ao l.length cap ∧ U64In w ao l := by
  have h0 := h
  unfold U64s at h0
  rcases h.2 with ⟨rfl, h1⟩ | ⟨g, cap, cur, rfl, _⟩
  · have : l = [] := List.length_eq_zero_iff.1 h1
    subst this
    exact ⟨none, 0, rfl, hw, hl, fun i hi => absurd hi (by simp)⟩
  · refine ⟨_, cap, rfl, hw, hl, fun i hi => ⟨g, 0, rfl, ?_⟩⟩
    rw [Nat.zero_add, h0.cellAt i (by omega), List.getElem?_map, List.getElem?_eq_getElem hi]
    simp [List.getD, hi]

namespace Nu64
theorem u_u64s : Try.prog.underlying 22 = some (.slice 28) := by kernel_rfl
theorem info : (Try.prog.info? 28).map (fun i => (i.zero, i.size, i.bytes)) = some (some (.int .u64 0), 1, 8) := by kernel_rfl
theorem u_u64 : Try.prog.underlying 28 = some (.int .u64) := by kernel_rfl
end Nu64

section
variable {w w' : World} {base : Nat} {v : Value} {l : List Int}
theorem U64s.keeps' {S : Nat → Prop} (h : U64s w base v l) (ho : Only S w w') (hs : ∀ k, v.ownBlock = some k → ¬ S k) : U64s w' base v l := row_keeps h ho hs
theorem U64s.nil' (w : World) (base : Nat) : U64s w base (.slice none 0 0) [] := World.ownsRow_nil _ _ _ _
theorem U64s.shape (h : U64s w base v l) : ∃ ao cap, v = .slice ao l.length cap := by
  rcases h.2 with ⟨h1, h0⟩ | ⟨g, cap, cur, rfl, hb, _, hn, hm, _⟩
  · exact ⟨none, 0, by rw [h1, h0]⟩
  · exact ⟨_, cap, rfl⟩
theorem U64s.at' {ao : Option Addr} {cap : Nat} (h : U64s w base (.slice ao l.length cap) l) {k : Nat} (hk : k < l.length) : ∃ b off, ao = some ⟨b, off, none⟩ ∧ w.cell? ⟨b, off + k, none⟩ = some (.int .u64 (l.getD k 0)) := by
  rcases h.2 with ⟨h1, h0⟩ | ⟨g, cap', cur, h1, hb, hg, hn, hm, _, ht⟩
  · omega
  · simp only [Value.slice.injEq] at h1
    obtain ⟨rfl, _, rfl⟩ := h1
    refine ⟨g, 0, rfl, ?_⟩
    rw [Nat.zero_add]
    have := World.ownsRow.cellAt h k (by simpa using hk)
    rw [this, List.getElem?_map, List.getElem?_eq_getElem hk]
    simp [List.getD, hk]
theorem U64s.lenLe {ao : Option Addr} {cap : Nat} (h : U64s w base (.slice ao l.length cap) l) : l.length ≤ cap ∧ cap ≤ maxLen := by
  rcases h.2 with ⟨h1, h0⟩ | ⟨g, cap', cur, h1, hb, hg, hn, hm, _, ht⟩
  · simp only [Value.slice.injEq] at h1
    exact ⟨by omega, by rw [h1.2.2]; unfold maxLen; omega⟩
  · simp only [Value.slice.injEq] at h1
    obtain ⟨rfl, _, rfl⟩ := h1
    exact ⟨hn, hm⟩
theorem cell_u64 (w : World) (c : Int) (t : TypeId) (n : Nat) (hn : n = w.heap.size) : (w.alloc (.cells #[.int .u64 c] t)).cell? ⟨n, 0, none⟩ = some (.int .u64 c) := by
  subst hn
  rw [(Blk.made w _ _).cell]; rfl
end

section
variable {ops : Array Oper} {rest : List Oper} {o : Oper} {a : Act} {Q : Exit → Act → World → Prop}
theorem wpList_append_u64 (w : World) (hgd : o.guard = none) (s x : Operand) (ho : o.op = .call { callee := .builtin .append, args := #[s, x], argTypes := #[22, 22] })
    (base : Nat) (v : Value) (l : List Int) (c : Int) (ad : Addr) (n : Nat) (hs : a.eval s = v) (hown : U64s w base v l) (hx : a.eval x = .slice (some ad) 1 n) (hc : w.cell? ad = some (.int .u64 c))
    (hlen : l.length + 1 ≤ 17592186044416) (hbase : base ≤ w.heap.size)
    (h : ∀ v' w', U64s w' base v' (l ++ [c]) → w.grownBy w' v.ownBlock → wpList Try.prog ops Q rest (a.put o.dst v') w') : wpList Try.prog ops Q (o :: rest) a w := by
  obtain ⟨i, hi, hz, hsz, hby⟩ := info_parts Nu64.info
  refine wpList_append_own w hgd s x _ ho base 28 i (.int .u64 0) 1 8 Nu64.u_u64s hi hz hsz hby rfl (by decide) v l.length _ hs hown ad 1 n [.int .u64 c] hx rfl ?_ ?_ ?_ ?_ hbase ?_
  · intro j u hj
    cases j with
    | zero =>
      cases hj
      have : ad.add 0 = ad := by unfold Addr.add; obtain ⟨b, off, sp⟩ := ad; cases sp <;> rfl
      rw [this]; exact hc
    | succ j => cases hj
  · simp [Value.oneCell']
  · unfold maxLen; omega
  · omega
  · intro v' w' h1 h2 _
    refine h v' w' ?_ h2
    unfold U64s
    simpa using h1
end
open Go.Maps Go.ChangeShapes Go.WideShapes Go.Deep
section
variable {H : Type} {enc : TypeId × Value → H} {w : World}
theorem open_u64s_cs {fuel : Nat} {v : Value} {x : DataW H × List MemPlace} (h : DataW.trod enc Try.prog w 0 (fun _ => true) true fuel 22 [v] = some x) :
    ∃ (l : List Int) (ao : Option Addr) (cap : Nat), v = .slice ao l.length cap ∧ U64In w ao l := by
  rcases open_ints Nu64.u_u64s Nu64.u_u64 (by kernel_rfl) h with ⟨hcs, _⟩ | ⟨a, len, cap, zs, hcs, _, hl, hm, hz, _, hcell, hwz⟩
  · simp at hcs
    subst hcs
    exact ⟨[], none, 0, rfl, by simp, by simp, fun i hi => absurd hi (by simp)⟩
  · simp at hcs
    subst hcs
    have hz' : zs.length = cap := by simpa using hz
    have hlen : (zs.take len).length = len := by rw [List.length_take]; omega
    refine ⟨zs.take len, some a, cap, by rw [hlen], fun y hy => hwz y (List.mem_of_mem_take hy), by rw [hlen]; omega, fun i hi => ?_⟩
    have hi' : i < len := by omega
    have hc := hcell i (by omega)
    have hc0 := hcell 0 (by omega)
    obtain ⟨b, off, spot⟩ := a
    have hspot : spot = none := by simpa [Addr.add] using World.cell?_spot hc0
    subst hspot
    refine ⟨b, off, rfl, ?_⟩
    have e : (zs.take len).getD i 0 = zs.getD i 0 := by simp [List.getD, hi']
    rw [e, ← Addr.add_lit]
    exact hc
theorem open_u64s {v : Value} {d : DataW H} {p : List MemPlace} {r : Reach} {base : Nat} (_hv : Value.okWide Try.prog w r base 22 v) (h : DataW.Trod enc Try.prog w 0 (fun _ => true) true 22 v d p) :
    ∃ x : List Int × Option Addr × Nat, v = .slice x.2.1 x.1.length x.2.2 ∧ U64In w x.2.1 x.1 := by
  obtain ⟨a, len, cap, rfl⟩ := okWide_slice Nu64.u_u64s _hv
  obtain ⟨fuel, hf⟩ := h
  obtain ⟨l, ao, cap', e, hi⟩ := open_u64s_cs (by simpa [Value.cells] using hf)
  exact ⟨⟨l, ao, cap'⟩, e, hi⟩
end
end Go.Proofs.Ytogeeeigfhmpmaa

/- The numbers under which the library's sort lies in this program: laid by the kit's lay-shelf.mjs and lay-plain.mjs (written by these programs for this claim), its functions and types named. -/
namespace Go.Proofs
open Go.Shelf
def Try.laysGg6_ren : Go.Shelf.Ren := ⟨fun | 6 => 33 | 10 => 64 | 11 => 65 | 12 => 66 | 13 => 67 | 14 => 68 | 24 => 89 | 25 => 90 | 26 => 91 | 27 => 92 | 28 => 93 | 29 => 94 | 30 => 95 | 31 => 96 | 32 => 97 | 33 => 98 | 34 => 101 | 35 => 102 | 36 => 103 | 37 => 104 | 38 => 105 | 39 => 106 | n => n, fun | 20 => 20 | 26 => 88 | 35 => 126 | 0 => 0 | 37 => 128 | 3 => 3 | 41 => 132 | 44 => 135 | 49 => 152 | 51 => 28 | 4 => 4 | 54 => 155 | 53 => 154 | 58 => 142 | 5 => 5 | 9 => 9 | 60 => 161 | 64 => 164 | 66 => 166 | 67 => 167 | 17 => 17 | 32 => 123 | 33 => 124 | 82 => 181 | 12 => 12 | 75 => 174 | 76 => 175 | 77 => 176 | 78 => 177 | 79 => 178 | 80 => 179 | n => n, fun | n => n⟩
theorem Try.laysGg6 : Go.Proofs.LaysGg.n6 Try.prog Try.laysGg6_ren := {
  mixed := by kernel_rfl
  f6 := Try.func33.trans (congrArg some (by kernel_rfl))
  f10 := Try.func64.trans (congrArg some (by kernel_rfl))
  f11 := Try.func65.trans (congrArg some (by kernel_rfl))
  f12 := Try.func66.trans (congrArg some (by kernel_rfl))
  f13 := Try.func67.trans (congrArg some (by kernel_rfl))
  f14 := Try.func68.trans (congrArg some (by kernel_rfl))
  f24 := Try.func89.trans (congrArg some (by kernel_rfl))
  f25 := Try.func90.trans (congrArg some (by kernel_rfl))
  f26 := Try.func91.trans (congrArg some (by kernel_rfl))
  f27 := Try.func92.trans (congrArg some (by kernel_rfl))
  f28 := Try.func93.trans (congrArg some (by kernel_rfl))
  f29 := Try.func94.trans (congrArg some (by kernel_rfl))
  f30 := Try.func95.trans (congrArg some (by kernel_rfl))
  f31 := Try.func96.trans (congrArg some (by kernel_rfl))
  f32 := Try.func97.trans (congrArg some (by kernel_rfl))
  f33 := Try.func98.trans (congrArg some (by kernel_rfl))
  f34 := Try.func101.trans (congrArg some (by kernel_rfl))
  f35 := Try.func102.trans (congrArg some (by kernel_rfl))
  f36 := Try.func103.trans (congrArg some (by kernel_rfl))
  f37 := Try.func104.trans (congrArg some (by kernel_rfl))
  f38 := Try.func105.trans (congrArg some (by kernel_rfl))
  f39 := Try.func106.trans (congrArg some (by kernel_rfl))
  t0 := Try.underlying0
  a0 := Try.isAgg0
  z0 := Try.sizeOf0
  v0 := Try.zeroValue0
  i0 := by kernel_rfl
  t3 := Try.underlying3
  a3 := Try.isAgg3
  z3 := Try.sizeOf3
  v3 := Try.zeroValue3
  i3 := by kernel_rfl
  t4 := Try.underlying4
  a4 := Try.isAgg4
  z4 := Try.sizeOf4
  v4 := Try.zeroValue4
  i4 := by kernel_rfl
  t5 := Try.underlying5
  a5 := Try.isAgg5
  z5 := Try.sizeOf5
  v5 := Try.zeroValue5
  i5 := by kernel_rfl
  t9 := Try.underlying9
  a9 := Try.isAgg9
  z9 := Try.sizeOf9
  v9 := Try.zeroValue9
  i9 := by kernel_rfl
  t12 := Try.underlying12
  a12 := Try.isAgg12
  z12 := Try.sizeOf12
  v12 := Try.zeroValue12
  i12 := by kernel_rfl
  t17 := Try.underlying17
  a17 := Try.isAgg17
  z17 := Try.sizeOf17
  v17 := Try.zeroValue17
  i17 := by kernel_rfl
  t20 := Try.underlying20
  a20 := Try.isAgg20
  z20 := Try.sizeOf20
  v20 := Try.zeroValue20
  i20 := by kernel_rfl
  t26 := Try.underlying88
  a26 := Try.isAgg88
  z26 := Try.sizeOf88
  v26 := Try.zeroValue88
  i26 := by kernel_rfl
  t32 := Try.underlying123
  a32 := Try.isAgg123
  z32 := Try.sizeOf123
  v32 := Try.zeroValue123
  i32 := by kernel_rfl
  t33 := Try.underlying124
  a33 := Try.isAgg124
  z33 := Try.sizeOf124
  v33 := Try.zeroValue124
  i33 := by kernel_rfl
  t35 := Try.underlying126
  a35 := Try.isAgg126
  z35 := Try.sizeOf126
  v35 := Try.zeroValue126
  i35 := by kernel_rfl
  t37 := Try.underlying128
  a37 := Try.isAgg128
  z37 := Try.sizeOf128
  v37 := Try.zeroValue128
  i37 := by kernel_rfl
  t41 := Try.underlying132
  a41 := Try.isAgg132
  z41 := Try.sizeOf132
  v41 := Try.zeroValue132
  i41 := by kernel_rfl
  t44 := Try.underlying135
  a44 := Try.isAgg135
  z44 := Try.sizeOf135
  v44 := Try.zeroValue135
  i44 := by kernel_rfl
  t49 := Try.underlying152
  a49 := Try.isAgg152
  z49 := Try.sizeOf152
  v49 := Try.zeroValue152
  i49 := by kernel_rfl
  t51 := Try.underlying28
  a51 := Try.isAgg28
  z51 := Try.sizeOf28
  v51 := Try.zeroValue28
  i51 := by kernel_rfl
  t53 := Try.underlying154
  a53 := Try.isAgg154
  z53 := Try.sizeOf154
  v53 := Try.zeroValue154
  i53 := by kernel_rfl
  t54 := Try.underlying155
  a54 := Try.isAgg155
  z54 := Try.sizeOf155
  v54 := Try.zeroValue155
  i54 := by kernel_rfl
  t58 := Try.underlying142
  a58 := Try.isAgg142
  z58 := Try.sizeOf142
  v58 := Try.zeroValue142
  i58 := by kernel_rfl
  t60 := Try.underlying161
  a60 := Try.isAgg161
  z60 := Try.sizeOf161
  v60 := Try.zeroValue161
  i60 := by kernel_rfl
  t64 := Try.underlying164
  a64 := Try.isAgg164
  z64 := Try.sizeOf164
  v64 := Try.zeroValue164
  i64 := by kernel_rfl
  t66 := Try.underlying166
  a66 := Try.isAgg166
  z66 := Try.sizeOf166
  v66 := Try.zeroValue166
  i66 := by kernel_rfl
  t67 := Try.underlying167
  a67 := Try.isAgg167
  z67 := Try.sizeOf167
  v67 := Try.zeroValue167
  i67 := by kernel_rfl
  t75 := Try.underlying174
  a75 := Try.isAgg174
  z75 := Try.sizeOf174
  v75 := Try.zeroValue174
  i75 := by kernel_rfl
  t76 := Try.underlying175
  a76 := Try.isAgg175
  z76 := Try.sizeOf175
  v76 := Try.zeroValue175
  i76 := by kernel_rfl
  t77 := Try.underlying176
  a77 := Try.isAgg176
  z77 := Try.sizeOf176
  v77 := Try.zeroValue176
  i77 := by kernel_rfl
  t78 := Try.underlying177
  a78 := Try.isAgg177
  z78 := Try.sizeOf177
  v78 := Try.zeroValue177
  i78 := by kernel_rfl
  t79 := Try.underlying178
  a79 := Try.isAgg178
  z79 := Try.sizeOf178
  v79 := Try.zeroValue178
  i79 := by kernel_rfl
  t80 := Try.underlying179
  a80 := Try.isAgg179
  z80 := Try.sizeOf179
  v80 := Try.zeroValue179
  i80 := by kernel_rfl
  t82 := Try.underlying181
  a82 := Try.isAgg181
  z82 := Try.sizeOf181
  v82 := Try.zeroValue181
  i82 := by kernel_rfl }
end Go.Proofs

/- The library's sort.Slice at a row of unsigned numbers, the least first, at any length; machine.Machine's Sagas. -/
namespace Go.Proofs.Ytogeeeigfhmpmaa
open Go.Shelf Go.RowKit Go.Lib Go.Sort
set_option maxRecDepth 100000

namespace Sa
def ltB (x y : Int) : Bool := decide (x < y)
theorem swo : SWO ltB where
  irrefl := fun x => by simp [ltB]
  trans := fun x y z h1 h2 => by simp only [ltB, decide_eq_true_eq] at *; omega
  ntrans := fun x y z h1 h2 => by simp only [ltB, decide_eq_false_iff_not] at *; omega
noncomputable def siT : TypeInfo := (Try.prog.info? 22).get (by kernel_rfl)
noncomputable def siE : TypeInfo := (Try.prog.info? 28).get (by kernel_rfl)
theorem siK (n : Nat) (h2 : 2 ≤ n) : Lib.swapperK n siE 11 = 5 := by
  have a : siE.hasPointers = false := by kernel_rfl
  have b : siE.bytes = 8 := by kernel_rfl
  have c : (n == 0) = false := by simp; omega
  have d : (n == 1) = false := by simp; omega
  simp [Lib.swapperK, a, b, c, d]
theorem grownBy_sorted (enc : Int → Value) {w : World} {g n : Nat} {os : Array Obj} (d : Array Int) : w.grownBy (grow (putRow enc (Sort.ahead w n) g 0 d) os) (some g) := by
  refine ⟨rfl, rfl, rfl, by simp [grow, putRow, mapBlock, Sort.ahead], fun k hk hne => ?_⟩
  rw [heap_grow_old _ _ (by simpa [putRow, mapBlock, Sort.ahead] using hk)]
  have : g ≠ k := fun e => hne (by rw [e])
  simp [putRow, mapBlock, Sort.ahead, Array.getElem?_modify, this]
theorem grownBy_grow (w : World) (os : Array Obj) : w.grownBy (grow w os) none :=
  ⟨rfl, rfl, rfl, by simp [grow], fun k hk _ => heap_grow_old _ _ hk⟩
theorem sorted_list {d d' : Array Int} (hs : SortedIn ltB 0 d.size d') (hz : d'.size = d.size) : d'.toList.Pairwise (fun x y => x ≤ y) := by
  rw [List.pairwise_iff_getElem]
  intro i j hi hj hij
  have h := hs i j (Nat.zero_le _) hij (by simp at hj; omega)
  have hi' : i < d'.size := by simpa using hi
  have hj' : j < d'.size := by simpa using hj
  rw [getElem!_pos d' i hi', getElem!_pos d' j hj'] at h
  simp only [ltB, decide_eq_false_iff_not] at h
  simp only [Array.getElem_toList]
  omega
theorem short {l : List Int} (h : l.length ≤ 1) : l.Pairwise (fun x y => x ≤ y) := by
  cases l with
  | nil => exact .nil
  | cons x r =>
    cases r with
    | nil => exact List.pairwise_singleton _ _
    | cons y r => simp at h
/-- a list in order is the only one of its members -/
theorem perm_sorted : ∀ {a b : List Int}, a.Perm b → a.Pairwise (· ≤ ·) → b.Pairwise (· ≤ ·) → a = b
  | [], b, h, _, _ => (List.Perm.nil_eq h)
  | x :: a, [], h, _, _ => by have := h.length_eq; simp at this
  | x :: a, y :: b, h, ha, hb => by
    obtain ⟨h1, h2⟩ := List.pairwise_cons.1 ha
    obtain ⟨h3, h4⟩ := List.pairwise_cons.1 hb
    have hxy : x = y := by
      have hx : x ∈ y :: b := h.subset (List.mem_cons_self ..)
      have hy : y ∈ x :: a := h.symm.subset (List.mem_cons_self ..)
      rcases List.mem_cons.1 hx with e | hx
      · exact e
      · rcases List.mem_cons.1 hy with e | hy
        · exact e.symm
        · have := h1 y hy; have := h3 x hx; omega
    subst hxy
    rw [perm_sorted ((List.perm_cons x).1 h) h2 h4]
end Sa

set_option maxHeartbeats 2000000 in
/-- the closure: the numbers at two places are compared -/
theorem less_at (blk off c Bs size : Nat) (W : World) (G : Nat → Int) (hs : W.cell? ⟨Bs, 0, none⟩ = some (.slice (some ⟨blk, off, none⟩) size c))
    (hc : ∀ t, t < size → W.cell? ⟨blk, off + t, none⟩ = some (.int .u64 (G t))) (i j : Nat) (hi : i < size) (hj : j < size) (_hsz : size ≤ 1000000) :
    Calls Try.prog 34 #[.int .i64 i, .int .i64 j, .pointer (some ⟨Bs, 0, none⟩)] W fun e w' => e = .returned (.bool (decide (G i < G j))) ∧ ∃ q, w' = W.drewN q := by
  have ci := hc i hi
  have cj := hc j hj
  clear hc
  generalize G i = gi at ci ⊢
  generalize G j = gj at cj ⊢
  go_enter Try.func34, Try.ntmps34
  go_wp2
  go_quiet (fail)
  go_wp2
  go_ret
  exact ⟨rfl, nq, rfl⟩

set_option maxHeartbeats 2000000 in
theorem sort_asc (w : World) (base B cap : Nat) (ao : Option Addr) (l : List Int) (hB : w.cell? ⟨B, 0, none⟩ = some (.slice ao l.length cap)) (hne : ∀ g, (Value.slice ao l.length cap).ownBlock = some g → B ≠ g) (hl : l.length ≤ 1000)
    (hrow : U64s w base (.slice ao l.length cap) l) :
    Calls Try.prog 33 #[.iface 22 (.slice ao l.length cap), .func (.func 34) #[] #[.pointer (some ⟨B, 0, none⟩)]] w fun e w' =>
      e = .returned (.tuple #[]) ∧ ∃ l', l'.Perm l ∧ l'.Pairwise (· ≤ ·) ∧ U64s w' base (.slice ao l.length cap) l' ∧ Only (fun k => (Value.slice ao l.length cap).ownBlock = some k) w w' := by
  have hBl : B < w.heap.size := World.block_lt_of_cell? w _ hB
  by_cases h1 : l.length ≤ 1
  · obtain ⟨f, hK⟩ : ∃ f, Try.prog.funcs.findIdx? (·.name == "internal/reflectlite" ++ ".Swapper$" ++ toString (swapperK l.length Sa.siE 11)) = some f := by
      by_cases h0 : l.length = 0
      · exact ⟨80, by rw [h0]; kernel_rfl⟩
      · exact ⟨81, by rw [show l.length = 1 by omega]; kernel_rfl⟩
    have hS := Any.sort_Slice_tiny Try.laysGg6 22 28 Sa.siT Sa.siE (by kernel_rfl) (by kernel_rfl) (by kernel_rfl) (by kernel_rfl) 11 (fun _ => by kernel_rfl) ao l.length cap h1 f hK (.func 34) #[] #[.pointer (some ⟨B, 0, none⟩)] w
    change Calls Try.prog 33 _ _ _ at hS
    refine hS.mono ?_
    rintro e w' ⟨rfl, os, rfl⟩
    have hg := Sa.grownBy_grow w os
    have hO := Only.of_grown hg
    exact ⟨rfl, l, .refl _, Sa.short h1, hrow.keeps' hO (fun k _ h => by cases h), hO.mono (fun k h => by cases h)⟩
  · obtain ⟨g, cap', e', _, hgl, _, _, _, hH⟩ := holds_of_ownsRow (enc := Value.int .u64) hrow (by intro h; have := (Value.slice.inj h).2.1; omega)
    cases e'
    have h2 : 2 ≤ l.toArray.size := by simp; omega
    have hsz : l.toArray.size = l.length := by simp
    have hless : LessReads Try.prog 34 #[.pointer (some ⟨B, 0, none⟩)] (Value.int .u64) Sa.ltB g 0 l.toArray.size w := by
      intro m os dk hs i j hi hj
      have e : sortWorld (Value.int .u64) w g 0 m dk os = putRow (Value.int .u64) (grow (Sort.ahead w m) os) g 0 dk := by
        unfold sortWorld; rw [putRow_grow _ (Sort.ahead w m) _ g 0 _ hgl]
      have hHg : Holds (Value.int .u64) (grow (Sort.ahead w m) os) g 0 l.toArray := holds_grow _ _ _ g 0 l.toArray hgl (holds_ahead _ _ _ _ _ _ hH)
      refine less_at g 0 cap B l.toArray.size _ (fun t => dk[t]!) ?_ (fun t ht => ?_) i j hi hj (by rw [hsz]; omega)
      · rw [e, cell?_putRow_other _ _ g 0 dk _ (Or.inl (by exact hne g rfl)), cell?_grow _ _ _ (by show B < w.heap.size; exact hBl)]
        show w.cell? _ = _
        rw [hB, hsz]
      · rw [e]; exact cell?_putRow _ _ g 0 l.toArray dk hHg hs t (by omega)
    have hS := Any.sort_Slice_sorted Try.laysGg6 22 28 Sa.siT Sa.siE (by kernel_rfl) (by kernel_rfl) (by kernel_rfl) (by kernel_rfl) 11 (fun _ => by kernel_rfl) (by kernel_rfl) (fun _ => by kernel_rfl) (Value.int .u64) (fun _ => rfl) Sa.ltB Sa.swo 34 _
      (enters_of Try.func34 (by kernel_rfl) rfl) g 0 cap l.toArray h2 (by rw [hsz]; omega) 84 (by rw [Sa.siK _ h2]; kernel_rfl) true
      (fun args W => run_callFunc_extern Try.func84 (by kernel_rfl) (by kernel_rfl) (by kernel_rfl) (e := Extern.ReflectliteSwapper.swap true) (by kernel_rfl) args W) _ hless hH hgl
    change Calls Try.prog 33 _ _ _ at hS
    rw [hsz] at hS
    refine hS.mono ?_
    rintro e w' ⟨rfl, d', n, os, hp, hso, rfl⟩
    have hz : d'.size = l.toArray.size := hp.1
    have hpp := hp.2.2
    have e1 : d'.extract 0 l.length = d' := by rw [← hsz, ← hz]; exact Array.extract_size
    have e2 : l.toArray.extract 0 l.length = l.toArray := by rw [← hsz]; exact Array.extract_size
    rw [e1, e2] at hpp
    have hdl : d'.toList.length = l.length := by simp [hz]
    have hg := Sa.grownBy_sorted (Value.int .u64) (w := w) (g := g) (n := n) (os := os) d'
    have hperm : d'.toList.Perm l := hpp
    refine ⟨rfl, d'.toList, hperm, Sa.sorted_list (d := l.toArray) (by rw [hsz]; exact hso) hz, ?_, (Only.of_grown hg).mono (fun i hi => by cases hi; rfl)⟩
    have hr := ownsRow_putRow (enc := Value.int .u64) (q := n) (k := l.length) (ys := d'.toList) hrow hdl (Nat.le_refl _)
    rw [List.take_of_length_le (by rw [hdl]; exact Nat.le_refl _)] at hr
    have hk := hr.kept (Sa.grownBy_grow (putRow (Value.int .u64) (Sort.ahead w n) g 0 d'.toList.toArray) os) (.inr (by intro h; cases h))
    unfold U64s
    rw [hdl]
    exact hk
end Go.Proofs.Ytogeeeigfhmpmaa

/- machine.Machine's Sagas: the numbers of all, from the least up. -/
namespace Go.Proofs.Ytogeeeigfhmpmaa
open Go.RowKit
set_option maxRecDepth 100000

theorem ids_perm {acc ids : List Nat} (h1 : acc.Nodup) (h2 : ids.Pairwise (· < ·)) (h : ∀ x, x ∈ acc ↔ x ∈ ids) : acc.Perm ids := by
  refine (List.perm_ext_iff_of_nodup h1 ?_).2 h
  exact h2.imp (fun hlt e => by omega)
theorem ids_asc {ids : List Nat} (h : ids.Pairwise (· < ·)) : (ids.map (fun i : Nat => (i : Int))).Pairwise (· ≤ ·) := by
  rw [List.pairwise_map]
  exact h.imp (fun hlt => by omega)
theorem U64s.lower {w : World} {b b' : Nat} {v : Value} {l : List Int} (h : U64s w b v l) (hb : b' ≤ b) : U64s w b' v l := by
  refine ⟨h.1, ?_⟩
  rcases h.2 with h0 | ⟨g, cap, cur, h1, h2, h3⟩
  · exact .inl h0
  · exact .inr ⟨g, cap, cur, h1, Nat.le_trans hb h2, h3⟩
set_option maxHeartbeats 2000000 in
theorem sagas_at (w : World) (p tb mb : Nat) (v : Value) (m : Mc.Mach) (hM : MachAt w p tb mb v m) (hk : m.Ok) :
    Calls Try.prog 11 #[.pointer (some ⟨p, 0, none⟩)] w fun e w' => ∃ u, e = .returned u ∧ U64s w' w.heap.size u (m.ids.map (fun i : Nat => (i : Int))) ∧ Only NoBlock w w' := by
  obtain ⟨F, hm, hF⟩ := hM.sgs
  have hhas : ∀ x, (F x).isSome = true ↔ x ∈ m.ids := fun x => by
    rw [← hk.has x]
    rcases hF x with ⟨a, b⟩ | ⟨s, r, a, b, _⟩
    · rw [a, b]; simp
    · rw [a, b]; simp
  have HH := Lib.hid hhas
  have hlen := hk.len
  have hB0 := hM.blk
  clear hhas hF
  go_enter Try.func11, Try.ntmps11
  go_upto_region 4 with fail
  have hV := Blk.made w #[.slice none 0 0] 22
  have hO := (Only.refl NoBlock w).alloc (Obj.cells #[.slice none 0 0] 22)
  have hm1 := hm.keeps hO (fun h => h)
  have hP := hB0.keeps hO (fun h => h)
  have hsz : (w.alloc (Obj.cells #[.slice none 0 0] 22)).heap.size = w.heap.size + 1 := by simp
  generalize w.alloc (Obj.cells #[.slice none 0 0] 22) = w1 at hV hO hm1 hP hsz ⊢
  generalize hBe : w.heap.size = B at hV hsz ⊢
  have hB1 : B < w1.heap.size := by omega
  have hw0 : w.heap.size ≤ B := by omega
  have hmbB : mb ≠ B := fun e => hm1.ne_cells hV e
  have hmb1 : mb < w1.heap.size := hm1.lt
  clear hm hB0 hBe hsz
  have c1 := hP.cell 1
  simp only [List.getElem?_toArray, List.getElem?_cons_succ, List.getElem?_cons_zero] at c1
  go_wp2_with (first | (at_range; refine wpList_urange rfl _ _ rfl Mk.law Mk.u_map rfl hm1 ?_; intro w2 hg2 hO2 hs2) | go_in)
  go_frame
  have hV2 := hV.keeps hO2 (fun h => h)
  generalize hre : w1.heap.size = r at hg2 hs2 ⊢
  have hrB : r ≠ B := by omega
  have hBr1 : B < r := by omega
  have hmbr : mb < r := by omega
  have hr2 : r + 1 ≤ w2.heap.size := by omega
  have hO2' := hO.trans hO2
  clear hO hO2 hV hP c1 hm1 hre hs2
  go_loopw [] (fun wr => ∃ (L : Nat → Bool) (cnt : Nat) (acc : List Nat) (u : Value), UGoing sgM Try.prog 28 wr mb r F L cnt ∧ Blk wr B #[u] 22 ∧ U64s wr (r + 1) u (acc.map (fun i : Nat => (i : Int))) ∧ acc.length + cnt ≤ m.ids.length ∧ RowKit.Hid (acc.Nodup ∧ ∀ x, x ∈ acc ↔ ((F x).isSome = true ∧ L x = false)) ∧ Only NoBlock w wr)
    (fun wr => wr.rangeLeft mb r)
  case atStart => exact ⟨_, _, [], _, hg2, hV2, U64s.nil' _ _, by simp, Lib.hid ⟨List.nodup_nil, fun x => ⟨fun h => (by cases h), fun h => by rw [h.1] at h; exact absurd h.2 (by simp)⟩⟩, hO2'⟩
  case round =>
    obtain ⟨L, cnt, acc, u, hg, hV3, hu, hac, HA, hO3⟩ := hrel
    go_wp2_with (first
      | (at_next; refine wpList_unext rfl _ rfl Mk.law Mk.u_u64k rfl hg ?_ ?_)
      | go_in)
    · intro hL
      have hperm : RowKit.Hid (acc.Perm m.ids) := Lib.hid (ids_perm HA.out.1 hk.asc (fun x => by
        rw [HA.out.2 x, ← HH.out x]
        simp [hL x]))
      clear HA hL
      have hal : acc.length ≤ 16 := by omega
      have hll : (acc.map (fun i : Nat => (i : Int))).length = acc.length := List.length_map _
      generalize hml : acc.map (fun i : Nat => (i : Int)) = l at hu hll
      have HML := Lib.hid hml
      have hl16 : l.length ≤ 16 := by omega
      clear hml hll hal
      obtain ⟨ao, cap, rfl⟩ := hu.shape
      have c0 := hV3.cell 0
      simp only [List.getElem?_toArray, List.getElem?_cons_zero] at c0
      have hwB : ∀ g, (Value.slice ao l.length cap).ownBlock = some g → B ≠ g := fun g hg' e => by have := (World.ownsRow.lt hu g hg').1; omega
      go_wp2_with fail
      refine (sort_asc wr (r + 1) B cap ao l c0 hwB (by omega) hu).mono ?_
      rintro e w5 ⟨rfl, l', hp, hs, hu5, hO5⟩
      have hlp : l'.length = l.length := hp.length_eq
      have hV5 := hV3.keeps hO5 (fun e => hwB B e rfl)
      have c5 := hV5.cell 0
      simp only [List.getElem?_toArray, List.getElem?_cons_zero] at c5
      have HL : RowKit.Hid (l' = m.ids.map (fun i : Nat => (i : Int))) := Lib.hid (Sa.perm_sorted (hp.trans (by rw [← HML.out]; exact hperm.out.map _)) hs (ids_asc hk.asc))
      have hww : w.heap.size ≤ r + 1 := by omega
      have hOe : Only NoBlock w w5 := hO3.andThen hO5 (fun i hi e => by have := (World.ownsRow.lt hu i e).1; omega)
      clear hp hs hlp c0
      go_wp2_with fail
      go_ret
      have hu6 : U64s w5 (r + 1) (.slice ao l.length cap) (m.ids.map (fun i : Nat => (i : Int))) := by rw [← HL.out]; exact hu5
      exact ⟨_, rfl, U64s.lower hu6 hww, hOe⟩
    · intro x f w4 cnt4 hx hFx hLx hg4 hlt4 hO4 hs4 hen
      have hV4 := hV3.keeps hO4 (fun e => hrB e.symm)
      have hu4 : U64s w4 (r + 1) u (acc.map (fun i : Nat => (i : Int))) := U64s.keeps' hu hO4 (fun k hk e => by have := (World.ownsRow.lt hu k hk).1; omega)
      have hO5 : Only NoBlock w w4 := hO3.andThen hO4 (fun i hi e => by omega)
      have HA2 : RowKit.Hid ((acc ++ [x]).Nodup ∧ ∀ y, y ∈ acc ++ [x] ↔ ((F y).isSome = true ∧ (L y && !decide (y = x)) = false)) := Lib.hid (by
        obtain ⟨h1, h2⟩ := HA.out
        have hnx : x ∉ acc := fun hm => by rw [((h2 x).1 hm).2] at hLx; cases hLx
        refine ⟨List.nodup_append.2 ⟨h1, List.nodup_cons.2 ⟨List.not_mem_nil, List.nodup_nil⟩, ?_⟩, fun y => ?_⟩
        · intro a ha b hb e
          simp at hb
          subst hb
          subst e
          exact hnx ha
        · rw [List.mem_append, h2 y]
          by_cases e : y = x
          · subst e; simp [hFx]
          · simp [e])
      have hac2 : (acc ++ [x]).length + cnt4 ≤ m.ids.length := by rw [List.length_append]; simp; omega
      have hal : (acc.map (fun i : Nat => (i : Int))).length + 1 ≤ 17592186044416 := by rw [List.length_map]; omega
      have hmap : (acc ++ [x]).map (fun i : Nat => (i : Int)) = acc.map (fun i : Nat => (i : Int)) ++ [(x : Int)] := by simp
      have HMAP := Lib.hid hmap
      have hle : wr.rangeLeft mb r = cnt := hg.left_eq
      clear hmap HA hV3 hu hac hO3 hO4 hg hs4
      generalize acc.map (fun i : Nat => (i : Int)) = l at hu4 hal HMAP
      obtain ⟨ao, cap, rfl⟩ := hu4.shape
      have c0 := hV4.cell 0
      have f0 := hV4.free 0
      simp only [List.getElem?_toArray, List.getElem?_cons_zero] at c0
      have hw4 : r + 1 ≤ w4.heap.size := by have := hg4.lt.1; omega
      have hVl := hV4.lt
      have hnV : ∀ k, (Value.slice ao l.length cap).ownBlock = some k → k ≠ B := fun k hk e => by have := (World.ownsRow.lt hu4 k hk).1; omega
      have hlen1 : (l ++ [(x : Int)]).length = l.length + 1 := by simp
      have HLN := Lib.hid hlen1
      clear hlen1
      go_wp2_with (first
        | (at_builtin; refine wpList_append_u64 _ rfl _ _ rfl (r + 1) (.slice ao l.length cap) l (x : Int) ⟨w4.heap.size, 0, none⟩ 1 rfl (U64s.keeps' hu4 ((Only.refl NoBlock _).alloc _) (fun _ _ h => h)) rfl (cell_u64 _ _ _ _ rfl) hal (by simp; omega) ?_; intro v7 w7 he7 hg7; have hV7 : Blk w7 B _ _ := (hg7.block _ (by simp; omega) (fun e => hnV B e.symm rfl)).trans (hV4.alloc _); have c7 := hV7.cell 0; have f7 := hV7.free 0; simp only [List.getElem?_toArray, List.getElem?_cons_zero] at c7; obtain ⟨ao7, cap7, rfl⟩ := he7.shape; rw [HLN.out] at he7)
        | go_in)
      have hO7 : Only NoBlock w w7 := (hO5.alloc _).grown hg7 (fun k hk hlt => by have := (World.ownsRow.lt hu4 k hk).1; omega)
      have hO8 := hO7.setCell (p := ⟨B, 0, none⟩) (fun h => by have h' : B < w.heap.size := h; omega) (.slice ao7 (l.length + 1) cap7)
      have hmbN : mb < r := hmbr
      have hg7' := (hg4.keeps ((Only.refl NoBlock w4).alloc (Obj.cells #[.int .u64 (x : Int)] 28))).keepsG hg7 (fun e => by have := (World.ownsRow.lt hu4 mb e.symm).1; omega) (fun e => by have := (World.ownsRow.lt hu4 r e.symm).1; omega)
      have hg8 := hg7'.keepsS B (.slice ao7 (l.length + 1) cap7) (fun e => hmbB e.symm) hrB
      have hV8 : Blk (w7.setCell ⟨B, 0, none⟩ (.slice ao7 (l.length + 1) cap7)) B #[.slice ao7 (l.length + 1) cap7] 22 := hV7.setCell 0 (.slice ao7 (l.length + 1) cap7)
      have hu8 : U64s (w7.setCell ⟨B, 0, none⟩ (.slice ao7 (l.length + 1) cap7)) (r + 1) (.slice ao7 (l.length + 1) cap7) (l ++ [(x : Int)]) := U64s.keeps' (S := fun k => k = B) he7 ((Only.refl (fun k => k = B) w7).setCell (p := ⟨B, 0, none⟩) (fun _ => rfl) _) (fun k hk e => by have := (World.ownsRow.lt he7 k hk).1; omega)
      clear hV7 he7 c7 f7 hg7 hg7' hV4 hu4 c0 f0 hO5 hO7
      go_roundw
      case rel => exact ⟨_, cnt4, acc ++ [x], _, hg8, hV8, by rw [HMAP.out]; exact hu8, hac2, HA2, hO8⟩
      case measure => rw [hg8.left_eq, hle]; exact hlt4
end Go.Proofs.Ytogeeeigfhmpmaa

/- What a machine answers to a first session and to its first sagas, in plain data; a command's bytes are bytes. -/
namespace Go.Proofs.Ytogeeeigfhmpmaa
namespace Mc
open Pk
theorem byt_append {a b : List Int} (ha : Byt a) (hb : Byt b) : Byt (a ++ b) := by
  intro c hc
  rcases List.mem_append.1 hc with h | h
  · exact ha c h
  · exact hb c h
theorem byt_num {x : Nat} (h : x < 18446744073709551616) : Byt (num x) := num_byte h
theorem byt_flat {α : Type} {f : α → List Int} {l : List α} (h : ∀ x ∈ l, Byt (f x)) : Byt (l.flatMap f) := by
  intro c hc
  obtain ⟨x, hx, hc⟩ := List.mem_flatMap.1 hc
  exact h x hx c hc
theorem enc_byt {c : Cmd} (hm : may c = true) (hw : c.Wf) (hb : ∀ t ∈ c.steps, ∀ x ∈ t.name, 0 ≤ x ∧ x ≤ 255) : Byt (enc c) := by
  have hk := may_kind hm
  have hst : ∀ t ∈ c.steps, okS t = true := by
    intro t ht
    unfold may at hm
    split at hm
    · rw [Bool.and_eq_true, List.isEmpty_iff] at hm; rw [hm.1] at ht; cases ht
    · split at hm
      · rw [Bool.and_eq_true] at hm; exact (okSs_pos hm.1).2.2 t ht
      · split at hm
        · simp at hm; rw [hm.1.1.1.1] at ht; cases ht
        · cases hm
  have hlen : c.kind = 2 → c.steps.length ≤ 64 := by
    intro h2
    unfold may at hm
    rw [if_neg (by omega), if_pos h2, Bool.and_eq_true] at hm
    exact (okSs_pos hm.1).2.1
  have h4 : c.kind = 4 → c.step < 64 ∧ c.try_ < 9 := by
    intro h2
    unfold may at hm
    rw [if_neg (by omega), if_neg (by omega), if_pos h2] at hm
    simp at hm
    omega
  unfold enc
  refine byt_append (byt_append (byt_append (byt_append (byt_append (byt_num (by omega)) (byt_num hw.session)) (byt_num hw.seq)) (byt_num hw.saga)) (byt_num hw.now)) ?_
  split
  · rename_i h2
    unfold encSs
    refine byt_append (byt_num (by have := hlen h2; omega)) (byt_flat (fun t ht => ?_))
    have ho := hst t ht
    unfold okS at ho
    simp only [Bool.and_eq_true, decide_eq_true_eq] at ho
    unfold encS text
    exact byt_append (byt_append (byt_num (by omega)) (byt_append (byt_num (by omega)) (hb t ht))) (byt_num (by omega))
  · split
    · rename_i h5
      have := h4 h5
      have t1 := truth_le c.back
      have t2 := truth_le c.ok
      exact byt_append (byt_append (byt_append (byt_num (by omega)) (byt_num (by omega))) (byt_num (by omega))) (byt_num (by omega))
    · intro c hc; cases hc
/-- one step named s -/
def oneStep : List Stp := [⟨0, [115], 1⟩]
def regCmd : Cmd := ⟨1, 0, 0, 0, [], 0, false, 0, false, 0⟩
def subCmd (seq id : Nat) : Cmd := ⟨2, 1, seq, id, oneStep, 0, false, 0, false, 0⟩
theorem reg_may : may regCmd = true := by decide
theorem reg_wf : regCmd.Wf := ⟨by decide, by decide, by decide, by decide⟩
theorem sub_may (seq id : Nat) : may (subCmd seq id) = true := rfl
theorem sub_wf {seq id : Nat} (h1 : seq < 18446744073709551616) (h2 : id < 18446744073709551616) : (subCmd seq id).Wf := ⟨by show 1 < _; decide, h1, h2, by show 0 < _; decide⟩
theorem one_byt : ∀ t ∈ oneStep, ∀ x ∈ t.name, 0 ≤ x ∧ x ≤ 255 := by
  intro t ht x hx
  simp [oneStep] at ht
  subst ht
  simp at hx
  subst hx
  omega
theorem reg_byt : Byt (enc regCmd) := enc_byt reg_may reg_wf (by simp [regCmd])
theorem sub_byt {seq id : Nat} (h1 : seq < 18446744073709551616) (h2 : id < 18446744073709551616) : Byt (enc (subCmd seq id)) := enc_byt (sub_may _ _) (sub_wf h1 h2) one_byt
/-- the one session -/
def oneTab (seq : Nat) (y : Rep) : Tab := ⟨0, 2, [⟨1, 0, seq, y⟩]⟩
theorem reg_apply : Mach.new.apply (enc regCmd) = (⟨oneTab 0 ⟨0, 0, 0⟩, [], fun _ => none⟩, ⟨0, 1, 0⟩) := by
  unfold Mach.apply
  rw [dec_enc reg_may reg_wf]
  rfl
theorem one_fresh : told (fresh oneStep) = ⟨0, 1, 0⟩ := rfl
theorem oneTab_start {n : Nat} {y : Rep} : (oneTab n y).start 1 (n + 1) = (oneTab n y, ⟨0, 0, 0⟩, true) := by
  have hf : find (oneTab n y).rows 1 = some 0 := rfl
  unfold Tab.start
  rw [hf]
  simp only
  have hx : (oneTab n y).rows.getD 0 ⟨0, 0, 0, ⟨0, 0, 0⟩⟩ = ⟨1, 0, n, y⟩ := rfl
  rw [hx]
  rw [if_neg (by rintro ⟨h, _⟩; simp at h), if_neg (by rintro (h | h); exact h rfl; simp at h)]
  rfl
theorem oneTab_end {n : Nat} {y z : Rep} {seq : Nat} : (oneTab n y).end_ 1 seq z = oneTab seq z := rfl
/-- a saga is submitted by the one session -/
theorem sub_apply {n id : Nat} {y : Rep} {ids : List Nat} {f : Sgs} (h1 : n + 1 < 18446744073709551616) (h2 : id < 18446744073709551616) :
    (⟨oneTab n y, ids, f⟩ : Mach).apply (enc (subCmd (n + 1) id)) = (match f id with
      | some _ => (⟨oneTab (n + 1) ⟨42, 0, 0⟩, ids, f⟩, ⟨42, 0, 0⟩)
      | none => if 16 ≤ ids.length then (⟨oneTab (n + 1) ⟨11, 0, 0⟩, ids, f⟩, ⟨11, 0, 0⟩) else (⟨oneTab (n + 1) ⟨0, 1, 0⟩, insert ids id, put f id (fresh oneStep)⟩, ⟨0, 1, 0⟩)) := by
  unfold Mach.apply
  rw [dec_enc (sub_may _ _) (sub_wf h1 h2)]
  have hc : (oneTab n y).clock (subCmd (n + 1) id).now = oneTab n y := rfl
  have hs : (subCmd (n + 1) id).session = 1 := rfl
  have hq : (subCmd (n + 1) id).seq = n + 1 := rfl
  have hk : (subCmd (n + 1) id).kind = 2 := rfl
  simp only [hc, hs, hq, hk, oneTab_start]
  rw [if_neg (by simp), if_neg (by simp), if_neg (by simp)]
  unfold Mach.do_
  have hg : (subCmd (n + 1) id).saga = id := rfl
  rw [if_pos hk]
  simp only [hg]
  cases f id with
  | some s => rfl
  | none =>
    simp only
    split
    · rfl
    · rfl
end Mc
end Go.Proofs.Ytogeeeigfhmpmaa

/- The names of all steps are bytes; what is saved are bytes, and not many (plain data). -/
namespace Go.Proofs.Ytogeeeigfhmpmaa
namespace Mc
open Pk
def NameB (l : List Stp) : Prop := ∀ t ∈ l, Byt t.name
theorem text_name {r : RD} {m : Nat} (hb : Byt r.s) : Byt (r.text m).1 := by
  unfold RD.text
  simp only
  split
  · exact fun c hc => up_byt hb c (List.mem_of_mem_take hc)
  · intro c hc; cases hc
theorem rdS_name {r : RD} (hb : Byt r.s) : Byt (rdS r).1.name := text_name (up_byt hb)
theorem rdS_rest {r : RD} (hb : Byt r.s) : Byt (rdS r).2.s := up_byt (text_byt (up_byt hb))
theorem rdSn_name : ∀ (n : Nat) (r : RD), Byt r.s → NameB (rdSn n r).1
  | 0, _, _ => fun t ht => by cases ht
  | n + 1, r, hb => by
    intro t ht
    unfold rdSn at ht
    simp only at ht
    rcases List.mem_cons.1 ht with h | h
    · rw [h]; exact rdS_name hb
    · exact rdSn_name n _ (rdS_rest hb) t h
theorem rdSs_name {r : RD} (hb : Byt r.s) : NameB (rdSs r).1 := by
  unfold rdSs
  simp only
  split
  · intro t ht; cases ht
  · exact rdSn_name _ _ (up_byt hb)
theorem rdC_name {m k : Nat} {s : List Int} (hb : Byt s) : NameB (rdC m k s).1.steps := by
  have hb0 : Byt (RD.mk s false).s := hb
  have b5 := num_byt (num_byt (num_byt (num_byt (up_byt (m := 5) hb0))))
  unfold rdC
  simp only
  split
  · exact rdSs_name b5
  · split
    · intro t ht; cases ht
    · intro t ht; cases ht
theorem dec_name {s : List Int} {c : Cmd} (hb : Byt s) (h : dec s = some c) : NameB c.steps := by
  unfold dec at h
  simp only at h
  split at h
  · cases h; exact rdC_name hb
  · cases h
def Mach.By (m : Mach) : Prop := ∀ i s, m.sagas i = some s → NameB s.steps
theorem Mach.new_by : Mach.new.By := fun i s h => by cases h
theorem put_by {f : Sgs} (h : ∀ i s, f i = some s → NameB s.steps) {id : Nat} {s : Sg} (hs : NameB s.steps) : ∀ i t, put f id s i = some t → NameB t.steps := by
  intro i t ht
  unfold put at ht
  split at ht
  · cases ht; exact hs
  · exact h i t ht
theorem abort_steps' (s : Sg) : (abort s).1.steps = s.steps := by
  unfold abort backTo
  split
  · simp only
    split <;> rfl
  · rfl
theorem outcome_steps' (s : Sg) (step : Int) (taken : Bool) (tr : Int) (ok : Bool) : (outcome s step taken tr ok).1.steps = s.steps := by
  unfold outcome backTo
  split
  · split
    · split <;> rfl
    · split
      · dsimp only
        split <;> rfl
      · rfl
  · rfl
theorem Mach.By.do_ {m : Mach} (h : m.By) {c : Cmd} (hc : NameB c.steps) : (m.do_ c).1.By := by
  unfold Mach.do_
  split
  · cases hx : m.sagas c.saga with
    | some s => exact h
    | none =>
      simp only
      split
      · exact h
      · exact put_by h hc
  · split
    · cases hx : m.sagas c.saga with
      | none => exact h
      | some s => exact put_by h (by rw [abort_steps']; exact h _ s hx)
    · cases hx : m.sagas c.saga with
      | none => exact h
      | some s => exact h
theorem Mach.By.outcome {m : Mach} (h : m.By) (c : Cmd) : (m.outcome c).1.By := by
  unfold Mach.outcome
  cases hx : m.sagas c.saga with
  | none => exact h
  | some s =>
    simp only
    split
    · exact put_by h (by rw [outcome_steps']; exact h _ s hx)
    · exact h
theorem Mach.By.apply {m : Mach} (h : m.By) {s : List Int} (hb : Byt s) : (m.apply s).1.By := by
  unfold Mach.apply
  cases hd : dec s with
  | none => exact h
  | some c =>
    have hn := dec_name hb hd
    have h1 : ∀ t : Tab, Mach.By ⟨t, m.ids, m.sagas⟩ := fun _ => h
    simp only
    split
    · exact h
    · split
      · exact Mach.By.outcome (h1 _) c
      · split
        · exact h
        · exact Mach.By.do_ (h1 _) hn
theorem ldSgs_by : ∀ (n : Nat) (l : List Nat) (f : Sgs) (r : RD) (_ : Byt r.s) (_ : ∀ i s, f i = some s → NameB s.steps) {l' : List Nat} {f' : Sgs} {r' : RD} (_ : ldSgs n l f r = some (l', f', r')), ∀ i s, f' i = some s → NameB s.steps
  | 0, l, f, _, hb, h, l', f', r', e => by
    unfold ldSgs at e
    cases e
    exact h
  | n + 1, l, f, r, hb, h, l', f', r', e => by
    unfold ldSgs at e
    cases hx : (rdSg r.num.2).1 with
    | none => rw [hx] at e; cases e
    | some x =>
      rw [hx] at e
      simp only at e
      split at e
      · cases e
      · refine ldSgs_by n _ _ _ (rdSg_byt (num_byt hb)) (put_by h ?_) e
        have hst : x.steps = (rdSs r.num.2).1 := by
          unfold rdSg at hx
          simp only at hx
          split at hx
          · cases hx; rfl
          · cases hx
        rw [hst]
        exact rdSs_name (num_byt hb)
theorem load_by {s : List Int} (hb : Byt s) {m : Mach} (h : load s = some m) : m.By := by
  unfold load at h
  split at h
  · cases h; exact Mach.new_by
  · unfold ldMach at h
    cases hx : rdTab ⟨s, false⟩ with
    | none => rw [hx] at h; cases h
    | some y =>
      obtain ⟨t, r1⟩ := y
      obtain ⟨_, hb1⟩ := rdTab_ok (r := ⟨s, false⟩) hb hx
      rw [hx] at h
      simp only at h
      cases hy : ldSgs (r1.up 16).1 [] (fun _ => none) (r1.up 16).2 with
      | none => rw [hy] at h; cases h
      | some z =>
        obtain ⟨ids, f, r2⟩ := z
        rw [hy] at h
        simp only at h
        split at h
        · cases h
          exact ldSgs_by _ _ _ _ (up_byt hb1) (fun i s e => by cases e) hy
        · cases h
theorem encSg_byt {s : Sg} (h : sound s = true) (hn : NameB s.steps) : Byt (encSg s) := by
  obtain ⟨hok, h1, h2, h3, h4, h5, h6⟩ := sound_up h
  obtain ⟨_, hl, ht⟩ := okSs_pos hok
  unfold encSg encSs
  refine byt_append (byt_append (byt_append (byt_append (byt_num (by omega)) (byt_flat (fun t hm => ?_))) (byt_num (by omega))) (byt_num (by omega))) (byt_num (by omega))
  have ho := ht t hm
  unfold okS at ho
  simp only [Bool.and_eq_true, decide_eq_true_eq] at ho
  unfold encS text
  exact byt_append (byt_append (byt_num (by omega)) (byt_append (byt_num (by omega)) (hn t hm))) (byt_num (by omega))
theorem encTab_byt {t : Tab} (h : t.Ok) : Byt (encTab t) := by
  have hl := h.len
  unfold encTab
  refine byt_append (byt_append (byt_append (byt_num h.now) (byt_num h.next)) (byt_num (by omega))) (byt_flat (fun x hx => ?_))
  obtain ⟨_, h1, h2, h3, h4, h5⟩ := h.rows x hx
  have h6 := h.below x hx
  have h7 := h.used x hx
  have h8 := h.now
  have h9 := h.next
  unfold encSes
  exact byt_append (byt_append (byt_append (byt_append (byt_append (byt_num (by omega)) (byt_num (by omega))) (byt_num h1)) (byt_num (by omega))) (byt_num h4)) (byt_num h5)
theorem save_byt {m : Mach} (h : m.Ok) (hb : m.By) : Byt m.save := by
  have hl := h.len
  unfold Mach.save encIds
  refine byt_append (byt_append (encTab_byt h.tab) (byt_num (by omega))) (byt_flat (fun i hi => ?_))
  obtain ⟨s, hs⟩ := Option.isSome_iff_exists.1 ((h.has i).2 hi)
  rw [hs]
  exact byt_append (byt_num (h.ids i hi)) (encSg_byt (h.sound i s hs) (hb i s hs))
end Mc
end Go.Proofs.Ytogeeeigfhmpmaa

/- machine.Machine's Save: all of it as bytes. -/
namespace Go.Proofs.Ytogeeeigfhmpmaa
open Go.RowKit
set_option maxRecDepth 100000

theorem bytesy_nameB {l : List Pk.Stp} : Bytesy l ↔ Mc.NameB l := Iff.rfl
theorem flat_len {α : Type} (f : α → List Int) (c : Nat) : ∀ (l : List α) (_ : ∀ x ∈ l, (f x).length ≤ c), (l.flatMap f).length ≤ c * l.length
  | [], _ => by simp
  | x :: l, h => by
    have h1 := h x (by simp)
    have h2 := flat_len f c l (fun y hy => h y (by simp [hy]))
    rw [List.flatMap_cons, List.length_append, List.length_cons, Nat.mul_succ]
    omega
theorem encSg_len {s : Mc.Sg} (h : Mc.sound s = true) : (Mc.encSg s).length ≤ 4100 := by
  obtain ⟨hok, h1, h2, h3, h4, h5, h6⟩ := Mc.sound_up h
  have e := encSs_len (okSs_small hok)
  have n1 := num_len (x := s.state.toNat) (by omega)
  have n2 := num_len (x := s.cursor.toNat) (by omega)
  have n3 := num_len (x := s.failed.toNat) (by omega)
  unfold Mc.encSg
  simp only [List.length_append]
  omega
theorem encTab_len {t : Mc.Tab} (h : t.Ok) : (Mc.encTab t).length ≤ 1000 := by
  have h1 := h.now
  have h2 := h.next
  have h3 := h.len
  have n1 := num_len h1
  have n2 := num_len h2
  have n3 := num_len (x := t.rows.length) (by omega)
  have e := flat_len Mc.encSes 54 t.rows (fun x hx => by
    obtain ⟨_, k1, k2, k3, k4, k5⟩ := h.rows x hx
    have k6 := h.below x hx
    have k7 := h.used x hx
    have m1 := num_len (x := x.id) (by omega)
    have m2 := num_len (x := x.used) (by omega)
    have m3 := num_len k1
    have m4 := num_len (x := x.rep.err.toNat) (by omega)
    have m5 := num_len k4
    have m6 := num_len k5
    unfold Mc.encSes
    simp only [List.length_append]
    omega)
  unfold Mc.encTab
  simp only [List.length_append]
  omega
theorem encIds_snoc {f : Mc.Sgs} {l : List Nat} {k : Nat} (h : k < l.length) {i : Nat} {s : Mc.Sg} (hi : l[k] = i) (hs : f i = some s) : Mc.encIds f (l.take (k + 1)) = Mc.encIds f (l.take k) ++ (Pk.num i ++ Mc.encSg s) := by
  rw [List.take_succ_eq_append_getElem h, hi]
  unfold Mc.encIds
  simp [hs]
theorem U64s.ofT {w : World} {base : Nat} {v : Value} {l : List Int} (h : U64s w base v l) {g : Nat} (hg : v.ownBlock = some g) : OfT w g 28 := by
  rcases h.2 with ⟨rfl, _⟩ | ⟨g', cap, cur, rfl, _, hb, _⟩
  · cases hg
  · cases hg; exact ⟨_, _, hb⟩
/-- a writer from N on that leaves a row of numbers alone -/
theorem WrS.apart {w : World} {N p base : Nat} {u : Value} {l bs : List Int} (hW : WriterAt w N p bs) (hU : U64s w base u l) : WrS (fun k => N ≤ k ∧ u.ownBlock ≠ some k) w N p := by
  obtain ⟨h1, v, hb, _⟩ := hW
  exact ⟨⟨h1, fun e => (hU.ofT e).ne_blk hb (by decide) rfl⟩, fun k hk ht => ⟨hk, fun e => (hU.ofT e).ne ht (by decide) rfl⟩⟩
set_option maxHeartbeats 4000000 in
theorem save_at (w : World) (p tb mb : Nat) (v : Value) (m : Mc.Mach) (hM : MachAt w p tb mb v m) (hk : m.Ok) (hy : m.By) :
    Calls Try.prog 15 #[.pointer (some ⟨p, 0, none⟩)] w fun e w' => e = .returned (.string (textOf m.save)) ∧ Only NoBlock w w' := by
  have hl16 := hk.len
  have het := encTab_len hk.tab
  have hsb := Mc.save_byt hk hy
  have HSB := Lib.hid hsb
  have HE : RowKit.Hid (m.save = Mc.encTab m.tab ++ Pk.num m.ids.length ++ Mc.encIds m.sagas m.ids) := Lib.hid rfl
  have HK := Lib.hid hk
  have HY := Lib.hid hy
  have hpl := hM.blk.lt
  have htl := hM.tab.blk.lt
  have hml := hM.sgs.lt
  have hvl : ∀ k, v.ownBlock = some k → k < w.heap.size := fun k e => (hM.tab.row.ofT e).lt
  clear hsb hk hy
  go_enter Try.func15, Try.ntmps15
  go_upto_region 4 with fail
  have hB := Blk.made w #[.slice none 0 0] 102
  have hO : Only NoBlock w (w.alloc (Obj.cells #[.slice none 0 0] 102)) := (Only.refl NoBlock w).alloc _
  have hM1 := hM.keepsN hO
  have hsz : (w.alloc (Obj.cells #[.slice none 0 0] 102)).heap.size = w.heap.size + 1 := by simp
  generalize w.alloc (Obj.cells #[.slice none 0 0] 102) = w1 at hB hO hM1 hsz ⊢
  generalize hN : w.heap.size = N at hB hsz hpl htl hml hvl ⊢
  have hW1 : WriterAt w1 N N [] := ⟨Nat.le_refl _, _, hB, World.ownsRow_nil _ _ _ _⟩
  have hS1 : WrS (fun k => N ≤ k) w1 N N := WrS.base (Nat.le_refl _)
  have c0 := hM1.blk.cell 0
  simp only [List.getElem?_toArray, List.getElem?_cons_zero] at c0
  clear hB hsz
  go_wp2_with fail
  refine (tabwrite_at (fun k => N ≤ k) w1 N N [] hW1 hS1 tb v m.tab hM1.tab HK.out.tab (by omega) (fun k e => by have := hvl k e; omega) (by simp)).mono ?_
  rintro e w2 ⟨rfl, hW2, hO2⟩
  have hOn2 : Only NoBlock w w2 := hO.andThen hO2 (fun i hi h => by omega)
  have hM2 := hM.keepsN hOn2
  rw [List.nil_append] at hW2
  clear hO hM1 hW1 hS1 c0 hO2
  go_wp2_with fail
  refine (sagas_at w2 p tb mb v m hM2 HK.out).mono ?_
  rintro e w3 ⟨u, rfl, hU3, hO3⟩
  have hW3 := hW2.keepsN hO3
  have hOn3 := hOn2.trans hO3
  have hll : (m.ids.map (fun i : Nat => (i : Int))).length = m.ids.length := List.length_map _
  have cv := truth_conv m.ids.length (by omega)
  have hS3 := WrS.apart hW3 hU3
  have hn3 := num_len (x := m.ids.length) (by omega)
  generalize hr0 : w2.heap.size = r0 at hU3
  clear hW2 hM2 hOn2 hO3 hr0
  obtain ⟨ao, cap, rfl⟩ := hU3.shape
  rw [hll]
  go_wp2_with fail
  refine (wnumS_at _ w3 N N _ hW3 m.ids.length (by omega) (by omega) hS3.p hS3.row).mono ?_
  rintro e w4 ⟨rfl, hW4, hO4⟩
  have hOn4 : Only NoBlock w w4 := hOn3.andThen hO4 (fun i hi h => by omega)
  have hU4 := U64s.keeps' hU3 hO4 (fun k e h => h.2 e)
  clear hS3 hW3 hO4 hOn3 hU3
  go_wp2_with fail
  go_loopw [25] (fun v25 wr => ∃ (k : Nat) (cs : List Int), k ≤ m.ids.length ∧ v25 = .int .i64 k ∧ cs.length ≤ 1009 + 4109 * k ∧ RowKit.Hid (cs = Mc.encTab m.tab ++ Pk.num m.ids.length ++ Mc.encIds m.sagas (m.ids.take k)) ∧ WriterAt wr N N cs ∧ U64s wr r0 (.slice ao m.ids.length cap) (m.ids.map (fun i : Nat => (i : Int))) ∧ Only NoBlock w wr) (fun v25 _ => m.ids.length - (intOf v25).toNat)
  case atStart => exact ⟨0, Mc.encTab m.tab ++ Pk.num m.ids.length, by omega, rfl, by simp only [List.length_append]; omega, Lib.hid (by unfold Mc.encIds; simp), hW4, by rw [← hll]; rw [hll] at *; exact hU4, hOn4⟩
  case round =>
    clear hW4 hU4 hOn4
    obtain ⟨k, cs, hkl, rfl, hcl, HB, hWr, hUr, hOr⟩ := hrel
    by_cases hlt : k < m.ids.length
    · have hUr' := hUr
      rw [← hll] at hUr'
      obtain ⟨b, off, rfl, ce⟩ := U64s.at' hUr' (k := k) (by omega)
      obtain ⟨i, hi⟩ : ∃ i, m.ids[k] = i := ⟨_, rfl⟩
      have hg : (m.ids.map (fun i : Nat => (i : Int))).getD k 0 = (i : Int) := by rw [List.getD_eq_getElem?_getD, List.getElem?_map, List.getElem?_eq_getElem hlt, hi]; rfl
      rw [hg] at ce
      have him : i ∈ m.ids := hi ▸ List.getElem_mem hlt
      have hi64 := HK.out.ids i him
      obtain ⟨s, hs⟩ := Option.isSome_iff_exists.1 ((HK.out.has i).2 him)
      have hso := HK.out.sound i s hs
      have HSO := Lib.hid hso
      have hnb := HY.out i s hs
      have HA := Lib.hid (encIds_snoc hlt hi hs)
      have hsl := encSg_len hso
      have hn := num_len hi64
      clear hg hi him hUr' hso
      obtain ⟨ro, rc, hri, hrl⟩ := hM.sgs.lookAll hs hi64
      have hlook := (hrl wr hOr).2
      have hrlt : ∀ a, ro = some a → a.block < N := fun a e => by have := (hri.typed a e).lt; omega
      have hS := WrS.apart hWr hUr
      go_upto_region 10 with fail
      go_wp2_with fail
      refine (wnumS_at _ wr N N cs hWr i hi64 (by omega) hS.p hS.row).mono ?_
      rintro e w5 ⟨rfl, hW5, hO5⟩
      have hOn5 : Only NoBlock w w5 := hOr.andThen hO5 (fun i hi h => by omega)
      have hU5 := U64s.keeps' hUr hO5 (fun k e h => h.2 e)
      have hM5 := hM.keepsN hOn5
      have c1 := hM5.blk.cell 1
      simp only [List.getElem?_toArray, List.getElem?_cons_succ, List.getElem?_cons_zero] at c1
      have hlook5 := (hrl w5 hOn5).2
      have hS5 := WrS.apart hW5 hU5
      have hri5 := hri.keepsN hOn5
      clear hWr hUr hOr hS hO5 hM5 hlook hrl ce
      go_wp2_with fail
      refine (sagawrite_at _ w5 N N (cs ++ Pk.num i) hW5 hS5 s ro rc hri5 (fun a e h => by have := hrlt a e; omega) hnb HSO.out (by simp only [List.length_append]; omega)).mono ?_
      rintro e w6 ⟨rfl, hW6, hO6⟩
      have hOn6 : Only NoBlock w w6 := hOn5.andThen hO6 (fun i hi h => by omega)
      have hU6 := U64s.keeps' hU5 hO6 (fun k e h => h.2 e)
      rw [List.append_assoc] at hW6
      have hl6 : (cs ++ (Pk.num i ++ Mc.encSg s)).length ≤ 1009 + 4109 * (k + 1) := by simp only [List.length_append]; omega
      clear hW5 hU5 hOn5 hO6 hS5 hri5 c1 hlook5
      go_wp2_with fail
      go_roundw
      case rel => exact ⟨k + 1, _, by omega, by go_num, hl6, Lib.hid (by rw [HA.out, HB.out, List.append_assoc]), hW6, hU6, hOn6⟩
      case measure => simp [intOf]; omega
    · obtain rfl : k = m.ids.length := by omega
      have HF : RowKit.Hid (cs = m.save) := Lib.hid (by rw [HE.out, HB.out, List.take_length])
      have hbyte : ∀ c ∈ cs, 0 ≤ c ∧ c ≤ 255 := by rw [HF.out]; exact HSB.out
      clear HB
      go_wp2_with fail
      refine (wbytes_at wr N N cs hWr hbyte).mono ?_
      rintro e w7 ⟨rfl, rfl⟩
      go_wp2_with fail
      go_ret
      exact ⟨by rw [← HF.out]; rfl, hOr⟩
end Go.Proofs.Ytogeeeigfhmpmaa

/- Arguments as the walks take them: lists of texts, lists of lists of texts, pairs of numbers; with the bound that the form lays on all that is read. -/
namespace Go.Proofs.Ytogeeeigfhmpmaa
open Go.RowKit Go.Maps Go.ChangeShapes Go.WideShapes Go.Deep
set_option maxRecDepth 100000

/-- texts that came in: read, none longer than what can be -/
structure TextsIn (w : World) (ao : Option Addr) (l : List ByteArray) : Prop where
  row : StrsIn w ao l
  few : l.length ≤ 8796093022208
  small : ∀ i, i < l.length → (l.getD i ByteArray.empty).size ≤ 140737488351232
theorem TextsIn.keeps {S : Nat → Prop} {w w' : World} {ao : Option Addr} {l : List ByteArray} (h : TextsIn w ao l) (ho : Only S w w') (hs : ∀ a, ao = some a → ¬ S a.block) : TextsIn w' ao l := ⟨h.row.keeps ho hs, h.few, h.small⟩

namespace Op
theorem u_string : Try.prog.underlying 9 = some .string := by kernel_rfl
theorem u_int : Try.prog.underlying 3 = some (.int .i64) := by kernel_rfl
theorem c_string : Try.prog.cellsOf 9 = 1 := by kernel_rfl
theorem c_int : Try.prog.cellsOf 3 = 1 := by kernel_rfl
theorem b_string : Try.prog.bytesOf 9 = 16 := by kernel_rfl
theorem add_none (b off j : Nat) : (⟨b, off, none⟩ : Addr).add j = ⟨b, off + j, none⟩ := by unfold Addr.add; split <;> simp_all
theorem weights_all {H : Type} {P : Program} {e : TypeId} {d : DataW H} {n : Nat} : ∀ {l : List (DataW H)}, d ∈ l → n ∈ d.weights P e → n ∈ DataW.weightsAll P e l
  | [], h, _ => by cases h
  | y :: r, h, hn => by
    unfold DataW.weightsAll
    rcases List.mem_cons.1 h with rfl | h
    · exact List.mem_append_left _ hn
    · exact List.mem_append_right _ (weights_all h hn)
end Op

section
variable {H : Type} {enc : TypeId × Value → H} {w : World}

theorem open_texts_cs {fuel : Nat} {v : Value} {x : DataW H × List MemPlace} (h : DataW.trod enc Try.prog w 0 (fun _ => true) true fuel 41 [v] = some x) (hs : ∀ n ∈ x.1.weights Try.prog 41, n ≤ reachBytes) :
    ∃ (l : List ByteArray) (ao : Option Addr) (cap : Nat), v = .slice ao l.length cap ∧ TextsIn w ao l ∧ l.length ≤ cap ∧ cap ≤ maxLen := by
  rcases open_strings St.u_strings Op.u_string Op.c_string h with ⟨hcs, _⟩ | ⟨a, len, cap, ss, hcs, _, hl, hm, hz, hx, hcell, _⟩
  · simp at hcs
    subst hcs
    exact ⟨[], none, 0, rfl, ⟨StrsIn.none w, by simp, fun i hi => by simp at hi⟩, by simp, by simp⟩
  · simp at hcs
    subst hcs
    have hz' : ss.length = cap := by simpa using hz
    have hlen : (ss.take len).length = len := by rw [List.length_take]; omega
    rw [hx] at hs
    simp only [DataW.weights, St.u_strings, Op.b_string] at hs
    have hs0 := hs _ (List.mem_cons_self ..)
    simp only [strs, List.length_map, hlen, List.length_drop, reachBytes] at hs0
    refine ⟨ss.take len, some a, cap, by rw [hlen], ⟨⟨by rw [hlen]; omega, fun i hi => ?_⟩, by rw [hlen]; omega, fun i hi => ?_⟩, by omega, hm⟩
    · have hi' : i < len := by omega
      have hc := hcell i (by omega)
      have hc0 := hcell 0 (by omega)
      obtain ⟨b, off, spot⟩ := a
      have hspot : spot = none := by simpa [Addr.add] using World.cell?_spot hc0
      subst hspot
      refine ⟨b, off, rfl, ?_⟩
      have e : (ss.take len).getD i ByteArray.empty = ss.getD i ByteArray.empty := by simp [List.getD, hi']
      rw [e, ← Op.add_none]
      exact hc
    · rw [List.getD_eq_getElem?_getD, List.getElem?_eq_getElem hi, Option.getD_some]
      have hm2 : (ss.take len)[i] ∈ ss.take len := List.getElem_mem hi
      have hd : (.lit (.string ((ss.take len)[i]).data.toList) : DataW H) ∈ strs (ss.take len) := List.mem_map.2 ⟨_, hm2, rfl⟩
      have := hs _ (List.mem_cons_of_mem _ (List.mem_append_left _ (Op.weights_all (P := Try.prog) (e := 9) (n := ((ss.take len)[i]).data.toList.length) hd (by simp [DataW.weights]))))
      simp only [reachBytes] at this
      simpa using this

theorem open_texts {v : Value} {d : DataW H} {p : List MemPlace} {r : Reach} {base : Nat} (hv : Value.okWide Try.prog w r base 41 v) (h : DataW.Trod enc Try.prog w 0 (fun _ => true) true 41 v d p) (hs : ∀ n ∈ d.weights Try.prog 41, n ≤ reachBytes) :
    ∃ x : List ByteArray × Option Addr × Nat, v = .slice x.2.1 x.1.length x.2.2 ∧ TextsIn w x.2.1 x.1 ∧ x.1.length ≤ x.2.2 ∧ x.2.2 ≤ maxLen := by
  obtain ⟨a, len, cap, rfl⟩ := okWide_slice St.u_strings hv
  obtain ⟨fuel, hf⟩ := h
  obtain ⟨l, ao, cap', e, hi⟩ := open_texts_cs (by simpa [Value.cells] using hf) hs
  exact ⟨⟨l, ao, cap'⟩, e, hi⟩

/-- lists of texts that came in -/
structure RowsIn (w : World) (ao : Option Addr) (L : List (List ByteArray × Option Addr × Nat)) : Prop where
  len : L.length ≤ maxLen
  cell : ∀ i, i < L.length → ∃ b off, ao = some ⟨b, off, none⟩ ∧ w.cell? ⟨b, off + i, none⟩ = some (.slice (L.getD i ([], none, 0)).2.1 (L.getD i ([], none, 0)).1.length (L.getD i ([], none, 0)).2.2)
  texts : ∀ i, i < L.length → TextsIn w (L.getD i ([], none, 0)).2.1 (L.getD i ([], none, 0)).1
theorem RowsIn.keeps {w w' : World} {ao : Option Addr} {L : List (List ByteArray × Option Addr × Nat)} (h : RowsIn w ao L) (ho : Only NoBlock w w') : RowsIn w' ao L :=
  ⟨h.len, fun i hi => by
    obtain ⟨b, off, e, hc⟩ := h.cell i hi
    refine ⟨b, off, e, ?_⟩
    have hlt : b < w.heap.size := World.block_lt_of_cell? w _ hc
    have hb := ho.block b hlt (fun h => h)
    rw [← hc]
    simp [World.cell?, hb], fun i hi => (h.texts i hi).keeps ho (fun _ _ h => h)⟩
end

end Go.Proofs.Ytogeeeigfhmpmaa

/- Cutting a row: the operation xs[l:], xs[:h], xs[l:h] at elements of one cell, whether its room is used up or not. -/
namespace Go.Proofs.Ytogeeeigfhmpmaa
open Go.RowKit

/-- where a cut row lies -/
def cutAddr (ao : Option Addr) (l cap s : Nat) : Option Addr := if cap = l then ao else ao.map (·.add (l * s))
theorem cutAddr_zero (ao : Option Addr) (cap s : Nat) : cutAddr ao 0 cap s = ao := by
  unfold cutAddr
  split
  · rfl
  · cases ao with
    | none => rfl
    | some a => simp only [Option.map_some, Nat.zero_mul]; obtain ⟨b, off, sp⟩ := a; cases sp <;> rfl

section
variable {P : Program} {ops : Array Oper} {rest : List Oper} {o : Oper} {a : Act} {Q : Exit → Act → World → Prop}
theorem wpList_slice_l (w : World) (hg : o.guard = none) (t : TypeId) (x l : Operand) (ho : o.op = .slice t x (some l) none none) (s : Nat)
    (ht : P.underlying t = some (.slice (P.elem t))) (hz : ∀ w, (sizeOf (P.elem t)).run P w = .ok s w)
    (ao : Option Addr) (n cap k : Nat) (kk : IntKind) (hx : a.eval x = .slice ao n cap) (hl : a.eval l = .int kk (k : Int)) (hk : k ≤ n)
    (h : wpList P ops Q rest (a.put o.dst (.slice (cutAddr ao k cap s) (n - k) (cap - k))) w) : wpList P ops Q (o :: rest) a w := by
  refine wpList_plain hg fun K hK => ?_
  have hrun := run_slice_l (P := P) (w := w) t ao n cap ht kk (k : Int) (by omega) (by omega)
  unfold Oper.wp
  simp only [execOp, ho, Sem.run_bind, Sem.run_pure, Option.map_some, Option.map_none, hx, hl, run_sliceAt_slice (w := w) t _ _ _ _ ht, hrun, hz, Result.andThen, Int.toNat_natCast]
  exact hK _ _ h
theorem wpList_slice_h (w : World) (hg : o.guard = none) (t : TypeId) (x u : Operand) (ho : o.op = .slice t x none (some u) none) (s : Nat)
    (ht : P.underlying t = some (.slice (P.elem t))) (hz : ∀ w, (sizeOf (P.elem t)).run P w = .ok s w)
    (ao : Option Addr) (n cap k : Nat) (kk : IntKind) (hx : a.eval x = .slice ao n cap) (hl : a.eval u = .int kk (k : Int)) (hk : k ≤ cap)
    (h : wpList P ops Q rest (a.put o.dst (.slice ao k cap)) w) : wpList P ops Q (o :: rest) a w := by
  refine wpList_plain hg fun K hK => ?_
  have hrun := run_slice_h (P := P) (w := w) t ao n cap ht kk (k : Int) (by omega) (by omega)
  unfold Oper.wp
  simp only [execOp, ho, Sem.run_bind, Sem.run_pure, Option.map_some, Option.map_none, hx, hl, run_sliceAt_slice (w := w) t _ _ _ _ ht, hrun, hz, Result.andThen]
  have e : sliced ao 0 k cap s = .slice ao k cap := by
    have := cutAddr_zero ao cap s
    unfold cutAddr at this
    unfold sliced
    rw [this, Nat.sub_zero, Nat.sub_zero]
  simp only [Int.toNat_natCast, e]
  exact hK _ _ h
theorem wpList_slice_lh (w : World) (hg : o.guard = none) (t : TypeId) (x l u : Operand) (ho : o.op = .slice t x (some l) (some u) none) (s : Nat)
    (ht : P.underlying t = some (.slice (P.elem t))) (hz : ∀ w, (sizeOf (P.elem t)).run P w = .ok s w)
    (ao : Option Addr) (n cap k m : Nat) (kk km : IntKind) (hx : a.eval x = .slice ao n cap) (hl : a.eval l = .int kk (k : Int)) (hu : a.eval u = .int km (m : Int)) (hk : k ≤ m) (hm : m ≤ cap)
    (h : wpList P ops Q rest (a.put o.dst (.slice (cutAddr ao k cap s) (m - k) (cap - k))) w) : wpList P ops Q (o :: rest) a w := by
  refine wpList_plain hg fun K hK => ?_
  have hrun := run_slice_lh (P := P) (w := w) t ao n cap ht kk km (k : Int) (m : Int) (by omega) (by omega) (by omega)
  unfold Oper.wp
  simp only [execOp, ho, Sem.run_bind, Sem.run_pure, Option.map_some, Option.map_none, hx, hl, hu, run_sliceAt_slice (w := w) t _ _ _ _ ht, hrun, hz, Result.andThen, Int.toNat_natCast]
  exact hK _ _ h
end
end Go.Proofs.Ytogeeeigfhmpmaa

/- A machine of the call's own, beside another one; tontinelaw17.light. -/
namespace Go.Proofs.Ytogeeeigfhmpmaa
open Go.RowKit
set_option maxRecDepth 100000

/-- a machine that was made since w0 -/
structure Mine (w0 w : World) (p tb mb : Nat) (v : Value) (m : Mc.Mach) : Prop where
  mach : MachAt w p tb mb v m
  tb0 : w0.heap.size ≤ tb
  mb0 : w0.heap.size ≤ mb
  row0 : ∀ k, v.ownBlock = some k → w0.heap.size ≤ k
  ok : m.Ok
  by_ : m.By
/-- two machines that share nothing that is written -/
structure Apart (tb mb : Nat) (v : Value) (tb2 mb2 : Nat) (v2 : Value) : Prop where
  t : tb ≠ tb2
  m : mb ≠ mb2
  row : ∀ k, v.ownBlock = some k → v2.ownBlock ≠ some k
section
variable {w0 w w' : World} {p tb mb p2 tb2 mb2 : Nat} {v v' v2 : Value} {m m' m2 : Mc.Mach}
theorem Apart.symm (h : Apart tb mb v tb2 mb2 v2) : Apart tb2 mb2 v2 tb mb v := ⟨fun e => h.t e.symm, fun e => h.m e.symm, fun k h2 h1 => h.row k h1 h2⟩
theorem Mine.keepsN (h : Mine w0 w p tb mb v m) (ho : Only NoBlock w w') : Mine w0 w' p tb mb v m := ⟨h.mach.keepsN ho, h.tb0, h.mb0, h.row0, h.ok, h.by_⟩
/-- the other machine stays -/
theorem MachTo.other (h : MachTo p tb mb v m' w w' v') (h1 : MachAt w p tb mb v m) (h2 : MachAt w p2 tb2 mb2 v2 m2) (ha : Apart tb mb v tb2 mb2 v2) : MachAt w' p2 tb2 mb2 v2 m2 ∧ Apart tb mb v' tb2 mb2 v2 := by
  have q1 : tb ≠ mb2 := h2.sgs.ofT_ne h1.tab.blk.ofT
  have q2 : tb2 ≠ mb := h1.sgs.ofT_ne h2.tab.blk.ofT
  have q3 : p2 ≠ tb := h2.blk.ofT.ne_blk h1.tab.blk (by decide)
  have q4 : p2 ≠ mb := h1.sgs.ofT_ne h2.blk.ofT
  refine ⟨h2.keeps h.only ?_ ?_ ?_ ?_ h1.nS, ⟨ha.t, ha.m, fun k hk e => ?_⟩⟩
  · rintro (e | e | e)
    · exact q3 e
    · exact q4 e
    · exact (h1.tab.row.ofT e).ne_blk h2.blk (by decide) rfl
  · rintro (e | e | e)
    · exact ha.t e.symm
    · exact q2 e
    · exact (h1.tab.row.ofT e).ne_blk h2.tab.blk (by decide) rfl
  · rintro (e | e | e)
    · exact q1 e.symm
    · exact ha.m e.symm
    · exact h2.sgs.ofT_ne (h1.tab.row.ofT e) rfl
  · intro k hk
    rintro (e | e | e)
    · subst e; exact (h2.tab.row.ofT hk).ne_blk h1.tab.blk (by decide) rfl
    · subst e; exact h1.sgs.ofT_ne (h2.tab.row.ofT hk) rfl
    · exact ha.row k e hk
  · rcases h.row k hk with e1 | e1
    · exact ha.row k e1 e
    · have := (h2.tab.row.ofT e).lt; omega
/-- a command is applied -/
theorem Mine.apply_at (h : Mine w0 w p tb mb v m) (ho : Only NoBlock w0 w) (s : ByteArray) (hs : s.size ≤ 140737488351232) :
    Calls Try.prog 10 #[.pointer (some ⟨p, 0, none⟩), .string s] w fun e w' => e = .returned (repV (m.apply (nums s)).2) ∧ ∃ v', Mine w0 w' p tb mb v' (m.apply (nums s)).1 ∧ Only NoBlock w0 w' ∧ ∀ p2 tb2 mb2 v2 m2, Mine w0 w p2 tb2 mb2 v2 m2 → Apart tb mb v tb2 mb2 v2 → Mine w0 w' p2 tb2 mb2 v2 m2 ∧ Apart tb mb v' tb2 mb2 v2 := by
  refine (Go.Proofs.Ytogeeeigfhmpmaa.apply_at w p tb mb v m h.mach h.ok s hs).mono ?_
  rintro e w' ⟨he, v', hto⟩
  refine ⟨he, v', ⟨hto.at_, h.tb0, h.mb0, fun k hk => ?_, (h.ok.apply (nums_byte s)).1, h.by_.apply (nums_byte s)⟩, hto.fresh ho h.tb0 h.mb0 h.row0, fun p2 tb2 mb2 v2 m2 h2 ha => ?_⟩
  · rcases hto.row k hk with e1 | e1
    · exact h.row0 k e1
    · have := ho.size; omega
  · obtain ⟨a1, a2⟩ := hto.other h.mach h2.mach ha
    exact ⟨⟨a1, h2.tb0, h2.mb0, h2.row0, h2.ok, h2.by_⟩, a2⟩
/-- it is saved -/
theorem Mine.save_at (h : Mine w0 w p tb mb v m) :
    Calls Try.prog 15 #[.pointer (some ⟨p, 0, none⟩)] w fun e w' => e = .returned (.string (textOf m.save)) ∧ Only NoBlock w w' := Go.Proofs.Ytogeeeigfhmpmaa.save_at w p tb mb v m h.mach h.ok h.by_
theorem save_len {m : Mc.Mach} (h : m.Ok) : m.save.length ≤ 1000000 := by
  have h1 := encTab_len h.tab
  have h2 := h.len
  have h3 := num_len (x := m.ids.length) (by omega)
  have h4 := flat_len (fun i => Pk.num i ++ Mc.encSg ((m.sagas i).getD Mc.Sg.zero)) 4200 m.ids (fun i hi => by
    obtain ⟨s, hs⟩ := Option.isSome_iff_exists.1 ((h.has i).2 hi)
    have h5 := encSg_len (h.sound i s hs)
    have h6 := num_len (h.ids i hi)
    simp only [hs, Option.getD_some, List.length_append]
    omega)
  unfold Mc.Mach.save Mc.encIds
  simp only [List.length_append]
  omega
/-- what was saved is loaded -/
theorem Mine.load_at (h : Mine w0 w p tb mb v m) (ho : Only NoBlock w0 w) :
    Calls Try.prog 17 #[.string (textOf m.save)] w fun e w' => ∃ p2 tb2 mb2 v2, e = .returned (.tuple #[.pointer (some ⟨p2, 0, none⟩), .int .i64 0]) ∧ Mine w0 w' p tb mb v m ∧ Mine w0 w' p2 tb2 mb2 v2 m ∧ Apart tb mb v tb2 mb2 v2 ∧ Only NoBlock w0 w' := by
  have hsl := save_len h.ok
  refine (mload_at w (textOf m.save) (by rw [textOf_size]; omega)).mono ?_
  rintro e w' ⟨ho', hend⟩
  rw [nums_textOf (Mc.save_byt h.ok h.by_), Mc.load_save h.ok] at hend
  rcases hend with ⟨hn, _⟩ | ⟨m2, p2, tb2, mb2, v2, he, rfl, hM, h1, h2, h3, h4⟩
  · cases hn
  · cases he
    have hs := ho.size
    have l1 := h.mach.tab.blk.lt
    have l2 := h.mach.sgs.lt
    exact ⟨p2, tb2, mb2, v2, rfl, h.keepsN ho', ⟨hM, by omega, by omega, fun k hk => by have := h4 k hk; omega, h.ok, h.by_⟩, ⟨by omega, by omega, fun k hk e => by have := h4 k e; have := (h.mach.tab.row.ofT hk).lt; omega⟩, ho.trans ho'⟩
theorem Mine.new_at (ho : Only NoBlock w0 w) :
    Calls Try.prog 8 #[] w fun e w' => ∃ p tb mb v, e = .returned (.pointer (some ⟨p, 0, none⟩)) ∧ Mine w0 w' p tb mb v Mc.Mach.new ∧ Only NoBlock w0 w' := by
  refine (mnew_at w).mono ?_
  rintro e w' ⟨p, tb, mb, rfl, hM, hO, h1, h2, h3, h4⟩
  have hs := ho.size
  exact ⟨p, tb, mb, _, rfl, ⟨hM, by omega, by omega, fun k hk => (by cases hk), Mc.Mach.new_ok, Mc.Mach.new_by⟩, ho.trans hO⟩
end
theorem StrsIn.drop {w : World} {ao : Option Addr} {l : List ByteArray} {cap : Nat} (h : StrsIn w ao l) (hc : l.length ≤ cap) (k : Nat) : StrsIn w (cutAddr ao k cap 1) (l.drop k) := by
  refine ⟨by have := h.len; rw [List.length_drop]; omega, fun i hi => ?_⟩
  rw [List.length_drop] at hi
  obtain ⟨b, off, e, hcell⟩ := h.cell (k + i) (by omega)
  refine ⟨b, off + k, ?_, ?_⟩
  · unfold cutAddr
    rw [if_neg (by omega), e, Option.map_some, Nat.mul_one, Op.add_none]
  · rw [Nat.add_assoc, hcell, List.getD_eq_getElem?_getD, List.getD_eq_getElem?_getD, List.getElem?_drop]
/-- light: some answer -/
theorem light17_at (w : World) (ao : Option Addr) (cap : Nat) (l : List ByteArray) (hl : TextsIn w ao l) :
    Calls Try.prog 12 #[.slice ao l.length cap] w fun e w' => ∃ b : Bool, e = .returned (.bool b) ∧ Only NoBlock w w' := by
  have hlen := hl.few
  go_enter Try.func12, Try.ntmps12
  go_wp2_with fail
  go_loopw [3, 10] (fun u3 u10 wr => ∃ (k : Nat) (x : Int), k ≤ l.length ∧ u10 = .int .i64 k ∧ u3 = .int .i64 x ∧ Only NoBlock w wr) (fun _ u10 _ => l.length - (intOf u10).toNat)
  case atStart => exact ⟨0, _, by omega, rfl, rfl, Only.refl _ _⟩
  case round =>
    obtain ⟨k, x, hk, rfl, rfl, hn⟩ := hrel
    by_cases hlt : k < l.length
    · obtain ⟨b, off, rfl, hc⟩ := (hl.row.keeps hn (fun _ _ h => h)).cell k hlt
      have hsm := hl.small k hlt
      generalize l.getD k ByteArray.empty = s at hc hsm
      go_wp2_with fail
      go_roundw
      case rel => exact ⟨k + 1, _, by omega, by go_num, rfl, hn⟩
      case measure => simp [intOf]; omega
    · obtain rfl : k = l.length := by omega
      go_wp2_with fail
      go_ret
      exact ⟨_, rfl, hn⟩
end Go.Proofs.Ytogeeeigfhmpmaa

/- What stands at the head of each statement of layer 17: a saga that runs. -/
namespace Go.Proofs.Ytogeeeigfhmpmaa
open Go.RowKit
set_option maxRecDepth 100000

theorem rowIn_made {α : Type} (K : RowK α) (E : TypeId) (w : World) (cs : Array Value) (x : α) (hx : cs.toList = K.cells x) : RowIn K E (w.alloc (.cells cs E)) (some ⟨w.heap.size, 0, none⟩) [x] :=
  ⟨fun i hi => ⟨w.heap.size, 0, rfl, fun j hj => by
    have : i = 0 := by simp at hi; omega
    subst this
    have := made_cells K w E _ rfl cs x hx j hj
    simpa using this⟩, fun a ha => by cases ha; exact ⟨_, _, Blk.made w cs E⟩⟩
theorem one_smalls : Smalls Mc.oneStep := ⟨by decide, by
  intro t ht
  simp [Mc.oneStep] at ht
  subst ht
  exact ⟨by decide, by decide, by decide⟩⟩
theorem reg_enc_at (w : World) :
    Calls Try.prog 9 #[.agg #[.int .i64 1, .int .u64 0, .int .u64 0, .int .u64 0, .slice none 0 0, .int .i64 0, .bool false, .int .i64 0, .bool false, .int .u64 0]] w fun e w' => e = .returned (.tuple #[.string (textOf (Pk.enc Mc.regCmd)), .int .i64 0]) ∧ Only NoBlock w w' := by
  have h := renc_at w Mc.regCmd none 0 (by decide) Mc.reg_wf (by decide) (by decide) ⟨by decide, by simp [Mc.regCmd]⟩ (by intro t ht; simp [Mc.regCmd] at ht) (RowIn.nil w)
  rw [encE_may Mc.reg_may] at h
  exact h
theorem sub_enc_at (w : World) (ao : Option Addr) (cap : Nat) (h : RowIn stpK 38 w ao Mc.oneStep) (seq id : Nat) (h1 : seq < 18446744073709551616) (h2 : id < 18446744073709551616) :
    Calls Try.prog 9 #[.agg #[.int .i64 2, .int .u64 1, .int .u64 seq, .int .u64 id, .slice ao 1 cap, .int .i64 0, .bool false, .int .i64 0, .bool false, .int .u64 0]] w fun e w' => e = .returned (.tuple #[.string (textOf (Pk.enc (Mc.subCmd seq id))), .int .i64 0]) ∧ Only NoBlock w w' := by
  have h := renc_at w (Mc.subCmd seq id) ao cap (by show 2 ≤ 5; decide) (Mc.sub_wf h1 h2) (by show 0 < 1000; decide) (by show 0 < 1000; decide) one_smalls Mc.one_byt h
  rw [encE_may (Mc.sub_may seq id)] at h
  exact h
theorem enc_small {c : Pk.Cmd} (hw : c.Wf) (hk : c.kind ≤ 5) (hs : Smalls c.steps) (hst : c.step < 1000) (htr : c.try_ < 1000) : (Pk.enc c).length ≤ 5000 := by
  have h1 := num_len (x := c.kind) (by omega)
  have h2 := num_len hw.session
  have h3 := num_len hw.seq
  have h4 := num_len hw.saga
  have h5 := num_len hw.now
  have h6 := encSs_len hs
  have t1 := Pk.truth_le c.back
  have t2 := Pk.truth_le c.ok
  have h7 := num_len (x := c.step) (by omega)
  have h8 := num_len (x := c.try_) (by omega)
  have h9 := num_len (x := Pk.truth c.back) (by omega)
  have h10 := num_len (x := Pk.truth c.ok) (by omega)
  unfold Pk.enc
  simp only [List.length_append]
  split
  · omega
  · split
    · simp only [List.length_append]; omega
    · simp only [List.length_nil]; omega
/-- Apply of bytes that are known as a list -/
theorem apply_as {w : World} {p tb mb : Nat} {v : Value} {m : Mc.Mach} (hM : MachAt w p tb mb v m) (hk : m.Ok) {l : List Int} (hb : Pk.Byt l) (hl : l.length ≤ 140737488351232) :
    Calls Try.prog 10 #[.pointer (some ⟨p, 0, none⟩), .string (textOf l)] w (MachEnd p tb mb v (m.apply l).1 (m.apply l).2 w) := by
  have h := apply_at w p tb mb v m hM hk (textOf l) (by rw [textOf_size]; exact hl)
  rw [nums_textOf hb] at h
  exact h
theorem reg_small : (Pk.enc Mc.regCmd).length ≤ 140737488351232 := Nat.le_trans (enc_small Mc.reg_wf (by decide) ⟨by decide, by simp [Mc.regCmd]⟩ (by decide) (by decide)) (by decide)
theorem sub_small {seq id : Nat} (h1 : seq < 18446744073709551616) (h2 : id < 18446744073709551616) : (Pk.enc (Mc.subCmd seq id)).length ≤ 140737488351232 := Nat.le_trans (enc_small (Mc.sub_wf h1 h2) (by show 2 ≤ 5; decide) one_smalls (by show 0 < 1000; decide) (by show 0 < 1000; decide)) (by decide)
def begunM1 : Mc.Mach := ⟨Mc.oneTab 0 ⟨0, 0, 0⟩, [], fun _ => none⟩
def begunM2 : Mc.Mach := ⟨Mc.oneTab 1 ⟨0, 1, 0⟩, Mc.insert [] 7, Mc.put (fun _ => none) 7 (Mc.fresh Mc.oneStep)⟩
theorem begun_1 : Mc.Mach.new.apply (Pk.enc Mc.regCmd) = (begunM1, ⟨0, 1, 0⟩) := Mc.reg_apply
theorem begun_2 : begunM1.apply (Pk.enc (Mc.subCmd 1 7)) = (begunM2, ⟨0, 1, 0⟩) := (Mc.sub_apply (n := 0) (id := 7) (by decide) (by decide)).trans rfl
theorem begun_3 : begunM2.apply (Pk.enc (Mc.subCmd 1 7)) = (begunM2, ⟨0, 1, 0⟩) := by
  unfold Mc.Mach.apply
  rw [Pk.dec_enc (Mc.sub_may _ _) (Mc.sub_wf (by decide) (by decide))]
  rfl
set_option maxHeartbeats 4000000 in
theorem begun17_at (w : World) :
    Calls Try.prog 7 #[] w fun e w' => e = .returned (.bool true) ∧ Only NoBlock w w' := by
  go_enter Try.func7, Try.ntmps7
  go_wp2_with fail
  refine (mnew_at w).mono ?_
  rintro e w1 ⟨p, tb, mb, rfl, hM1, hO1, hp, htb, hmb, hpl⟩
  go_wp2_with fail
  refine (reg_enc_at w1).mono ?_
  rintro e w2 ⟨rfl, hO2⟩
  have hM2 := (MachTo.refl hM1).stepN hO2
  go_wp2_with fail
  have hA := (Only.refl NoBlock w2).alloc (Obj.cells #[.int .i64 0, .string ⟨#[115]⟩, .int .i64 1] 38)
  have hrw := rowIn_made stpK 38 w2 #[.int .i64 0, .string ⟨#[115]⟩, .int .i64 1] ⟨0, [115], 1⟩ rfl
  have hM3 := hM2.stepN hA
  generalize w2.alloc (Obj.cells #[.int .i64 0, .string ⟨#[115]⟩, .int .i64 1] 38) = w3 at hM3 hrw ⊢
  refine (sub_enc_at w3 _ _ hrw 1 7 (by decide) (by decide)).mono ?_
  rintro e w4 ⟨rfl, hO4⟩
  have hM4 := hM3.stepN hO4
  clear hM2 hM3 hrw hA hO2 hO4
  have hok1 := (Mc.Mach.new_ok.apply Mc.reg_byt).1
  have hok2 := (hok1.apply (Mc.sub_byt (seq := 1) (id := 7) (by decide) (by decide))).1
  rw [begun_1] at hok1 hok2
  rw [begun_2] at hok2
  go_wp2_with fail
  refine (apply_as hM4.at_ Mc.Mach.new_ok Mc.reg_byt reg_small).mono ?_
  rintro e w5 ⟨rfl, v5, hM5⟩
  rw [begun_1] at hM5 ⊢
  go_wp2_with fail
  refine (apply_as hM5.at_ hok1 (Mc.sub_byt (by decide) (by decide)) (sub_small (by decide) (by decide))).mono ?_
  rintro e w6 ⟨rfl, v6, hM6⟩
  rw [begun_2] at hM6 ⊢
  go_wp2_with fail
  refine (apply_as hM6.at_ hok2 (Mc.sub_byt (by decide) (by decide)) (sub_small (by decide) (by decide))).mono ?_
  rintro e w7 ⟨rfl, v7, hM7⟩
  rw [begun_3] at hM7 ⊢
  have hMA := ((hM4.trans hM5).trans hM6).trans hM7
  have hOb : Only NoBlock w w7 := hMA.fresh hO1 htb hmb (fun k hk => by cases hk)
  unfold repV
  clear hMA hM4 hM5 hM6 hok1 hM1 hO1
  have hM7a := hM7.at_
  clear hM7
  have hA1 := (Only.refl NoBlock w7).alloc (Obj.cells #[.int .i64 0, .int .u64 1, .int .u64 0] 34)
  have hA2 := hA1.alloc (Obj.cells #[.int .i64 0, .int .u64 1, .int .u64 0] 34)
  have hA3 := hA2.alloc (Obj.cells #[.int .i64 0, .int .u64 1, .int .u64 0] 34)
  have hM8 := hM7a.keepsN hA3
  go_wp2_with fail
  refine (sagas_at _ p tb mb v7 begunM2 hM8 hok2).mono ?_
  rintro e w8 ⟨u, rfl, hu, hO8⟩
  obtain ⟨ao, cap, rfl⟩ := hu.shape
  go_wp2_with fail
  go_ret
  exact ⟨rfl, (hOb.trans hA3).trans hO8⟩
end Go.Proofs.Ytogeeeigfhmpmaa
