/- What the statements of this seat lean on, part E: what the program's and the document's functions compute, in plain data. -/
import Derived.Test.YtekmjhenhgmpgaaMD
import Derived.ProofKit
import Derived.OpenShut
import Derived.Deep.Slices
import Derived.Deep.Fields
import Derived.ChangeSame
import Derived.Test.YtekmjhenhgmpgaaRows

/- Arguments of the store's statements as the walks take them: a vote. -/
namespace Go.Proofs.Ytekmjhenhgmpgaa
open Go.RowKit Go.Maps Go.ChangeShapes Go.WideShapes Go.Deep
set_option maxRecDepth 100000

namespace O8
noncomputable def hardFields : Array Field := match Try.prog.underlying 37 with | some (.struct fs) => fs | _ => #[]
theorem u_hard : Try.prog.underlying 37 = some (.struct hardFields) := by kernel_rfl
theorem hard_one : oneCellFields Try.prog hardFields = true := by kernel_rfl
theorem hard_cells : Try.prog.cellsOf 37 = 2 := by kernel_rfl
theorem hard_size : hardFields.size = 2 := by kernel_rfl
theorem hard_types : hardFields.toList.map (·.type) = [23, 3] := by kernel_rfl
theorem u_u64 : Try.prog.underlying 23 = some (.int .u64) := by kernel_rfl
theorem u_int : Try.prog.underlying 3 = some (.int .i64) := by kernel_rfl
theorem nat_of_wf {x : Int} (h : (Lit.int .u64 x).wf = true) : ∃ n : Nat, x = (n : Int) ∧ n < 18446744073709551616 := by
  have h1 : (IntKind.u64).min = 0 := by decide
  have h2 : (IntKind.u64).max = 18446744073709551615 := by decide
  have e : (Lit.int .u64 x).wf = (decide ((IntKind.u64).min ≤ x) && decide (x ≤ (IntKind.u64).max)) := rfl
  rw [e, h1, h2] at h
  simp at h
  exact ⟨x.toNat, by omega, by omega⟩
end O8

section
variable {H : Type} {enc : TypeId × Value → H} {w : World}
/-- a vote as cells -/
theorem hard_cells_of {fuel : Nat} {cs : List Value} {x : DataW H × List MemPlace} (hf : DataW.trod enc Try.prog w 0 (fun _ => true) true fuel 37 cs = some x) :
    ∃ h : Hrd, cs = [.int .u64 h.term, .int .i64 h.vote] ∧ h.Wf := by
  have hu := O8.u_hard
  have hone := O8.hard_one
  have hsz := O8.hard_size
  have hty := O8.hard_types
  have hC := O8.hard_cells
  generalize O8.hardFields = fs at hu hone hsz hty
  obtain ⟨ys, n, _, _, hl, hyl, hff⟩ := DataW.trod_struct hu hf
  rw [hC] at hl
  obtain ⟨c0, c1, rfl⟩ : ∃ c0 c1, cs = [c0, c1] := by
    match cs, hl with
    | [a, b], _ => exact ⟨a, b, rfl⟩
  have hfs : ∀ j, j < 2 → ∃ f, fs[j]? = some f ∧ [23, 3][j]? = some f.type := by
    intro j hj
    have : fs[j]? = some fs[j] := Array.getElem?_eq_getElem (by omega)
    refine ⟨_, this, ?_⟩
    rw [← hty, List.getElem?_map]
    simp
    exact ⟨_, this, rfl⟩
  obtain ⟨f0, g0, t0⟩ := hfs 0 (by omega)
  obtain ⟨f1, g1, t1⟩ := hfs 1 (by omega)
  simp at t0 t1
  have a0 := hff 0 f0 g0
  have a1 := hff 1 f1 g1
  rw [(hone_of hone 0 f0 g0).1, (hone_of hone 0 f0 g0).2, ← t0] at a0
  rw [(hone_of hone 1 f1 g1).1, (hone_of hone 1 f1 g1).2, ← t1] at a1
  rw [List.getElem?_eq_getElem (by omega)] at a0 a1
  simp only [List.drop_zero, List.take_succ_cons, List.take_zero, List.drop_succ_cons] at a0 a1
  obtain ⟨z0, e0, _, w0⟩ := DataW.trod_int O8.u_u64 a0
  obtain ⟨z1, e1, _, w1⟩ := DataW.trod_int O8.u_int a1
  obtain ⟨m0, rfl, y0⟩ := O8.nat_of_wf w0
  cases e0
  cases e1
  exact ⟨⟨m0, z1⟩, rfl, y0, w1⟩
theorem open_hard {v : Value} {d : DataW H} {p : List MemPlace} {r : Reach} {base : Nat} (hv : Value.okWide Try.prog w r base 37 v) (h : DataW.Trod enc Try.prog w 0 (fun _ => true) true 37 v d p) :
    ∃ x : Hrd, v = .agg #[.int .u64 x.term, .int .i64 x.vote] ∧ x.Wf := by
  unfold Value.okWide at hv
  rw [O8.u_hard] at hv
  obtain ⟨cs, rfl, hsz, _⟩ := hv
  obtain ⟨fuel, hf⟩ := h
  obtain ⟨x, e, hx⟩ := hard_cells_of hf
  refine ⟨x, ?_, hx⟩
  have hcl : (Value.agg cs).cells.toList = cs.toList := rfl
  rw [hcl] at e
  congr 1
  apply Array.ext'
  exact e
end
end Go.Proofs.Ytekmjhenhgmpgaa

/- Lists of calls of a store as the walks take them. -/
namespace Go.Proofs.Ytekmjhenhgmpgaa
open Go.RowKit Go.Maps Go.ChangeShapes Go.WideShapes Go.Deep
set_option maxRecDepth 100000

/-- a call of a store: Save or Anew -/
structure CallS where
  anew : Bool
  hard : Hrd
  snap : Snp
  ao : Option Addr
  cap : Nat
  es : List Ent
def CallS.zero : CallS := ⟨false, ⟨0, 0⟩, ⟨0, 0, 0, ByteArray.empty⟩, none, 0, []⟩
/-- one call lies at b, o -/
structure CallSAt (w : World) (b o : Nat) (c : CallS) : Prop where
  c0 : w.cell? ⟨b, o, none⟩ = some (.bool c.anew)
  c1 : w.cell? ⟨b, o + 1, none⟩ = some (.int .u64 c.hard.term)
  c2 : w.cell? ⟨b, o + 2, none⟩ = some (.int .i64 c.hard.vote)
  c3 : w.cell? ⟨b, o + 3, none⟩ = some (.int .u64 c.snap.index)
  c4 : w.cell? ⟨b, o + 4, none⟩ = some (.int .u64 c.snap.term)
  c5 : w.cell? ⟨b, o + 5, none⟩ = some (.int .u64 c.snap.config)
  c6 : w.cell? ⟨b, o + 6, none⟩ = some (.string c.snap.data)
  c7 : w.cell? ⟨b, o + 7, none⟩ = some (.slice c.ao c.es.length c.cap)
structure CallsS (w : World) (ao : Option Addr) (l : List CallS) : Prop where
  len : l.length ≤ 1048576
  few : ∀ i, i < l.length → (l.getD i CallS.zero).es.length ≤ 1048576
  dat : ∀ i, i < l.length → ∀ e ∈ (l.getD i CallS.zero).es, e.data.size ≤ 1048576
  sdat : ∀ i, i < l.length → (l.getD i CallS.zero).snap.data.size ≤ 1048576
  hard : ∀ i, i < l.length → (l.getD i CallS.zero).hard.Wf
  snap : ∀ i, i < l.length → (l.getD i CallS.zero).snap.Wf
  call : ∀ i, i < l.length → ∃ b off, ao = some ⟨b, off, none⟩ ∧ CallSAt w b (off + i * 8) (l.getD i CallS.zero)
  ents : ∀ i, i < l.length → EntsIn w (l.getD i CallS.zero).ao (l.getD i CallS.zero).es
  old : ∀ i, i < l.length → ∀ a, (l.getD i CallS.zero).ao = some a → (l.getD i CallS.zero).es = [] ∨ a.block < w.heap.size
theorem CallSAt.keeps {w w' : World} {b o : Nat} {c : CallS} (h : CallSAt w b o c) (ho : Only NoBlock w w') : CallSAt w' b o c := by
  have hk : ∀ {off : Nat} {v : Value}, w.cell? ⟨b, off, none⟩ = some v → w'.cell? ⟨b, off, none⟩ = some v := by
    intro off v hc
    have hlt : b < w.heap.size := World.block_lt_of_cell? w _ hc
    have hb := ho.block b hlt (fun h => h)
    rw [← hc]
    simp [World.cell?, hb]
  exact ⟨hk h.c0, hk h.c1, hk h.c2, hk h.c3, hk h.c4, hk h.c5, hk h.c6, hk h.c7⟩
theorem CallsS.keeps {w w' : World} {ao : Option Addr} {l : List CallS} (h : CallsS w ao l) (ho : Only NoBlock w w') : CallsS w' ao l :=
  ⟨h.len, h.few, h.dat, h.sdat, h.hard, h.snap, fun i hi => by obtain ⟨b, off, e, hc⟩ := h.call i hi; exact ⟨b, off, e, hc.keeps ho⟩, fun i hi => (h.ents i hi).keeps ho (fun _ _ h => h), fun i hi a ha => (h.old i hi a ha).imp (fun h => h) (fun h => Nat.lt_of_lt_of_le h ho.size)⟩

namespace Bk
theorem one_le {H : Type} (d : DataW H) : 1 ≤ Rows.uptoBulk d := by
  cases d with
  | lit l => cases l <;> simp [Rows.uptoBulk]
  | nil => simp [Rows.uptoBulk]
  | ptr d => simp [Rows.uptoBulk]
  | slice elems spare => simp [Rows.uptoBulk]
  | agg parts => simp [Rows.uptoBulk]
  | iface t d => simp [Rows.uptoBulk]
  | map entries => simp [Rows.uptoBulk]
  | held h => simp [Rows.uptoBulk]
theorem part_le {H : Type} {d : DataW H} {l : List (DataW H)} (h : d ∈ l) : Rows.uptoBulk d ≤ Rows.uptoBulkAll l := by
  induction l with
  | nil => cases h
  | cons x r ih =>
    simp only [Rows.uptoBulkAll]
    cases List.mem_cons.1 h with
    | inl e => subst e; omega
    | inr e => have := ih e; omega
theorem length_le {H : Type} (l : List (DataW H)) : l.length ≤ Rows.uptoBulkAll l := by
  induction l with
  | nil => simp [Rows.uptoBulkAll]
  | cons x r ih => have := one_le x; simp only [Rows.uptoBulkAll, List.length_cons]; omega
end Bk
section
variable {H : Type} {enc : TypeId × Value → H} {w : World}
/-- the fields of a struct -/
theorem struct_fields {t : TypeId} {fs : Array Field} {fuel : Nat} {cs : List Value} {x : DataW H × List MemPlace} {tys : List TypeId} {offs cls : List Nat} (ht : Try.prog.underlying t = some (.struct fs))
    (h : DataW.trod enc Try.prog w 0 (fun _ => true) true fuel t cs = some x) (hty : fs.toList.map (·.type) = tys) (hof : fs.toList.map (·.offset) = offs) (hcl : tys.map Try.prog.cellsOf = cls) :
    cs.length = Try.prog.cellsOf t ∧ ∀ (j : Nat) (ty : TypeId) (o c : Nat), tys[j]? = some ty → offs[j]? = some o → cls[j]? = some c → ∃ n y, DataW.trod enc Try.prog w 0 (fun _ => true) true n ty ((cs.drop o).take c) = some y ∧ Rows.uptoBulk y.1 ≤ Rows.uptoBulk x.1 := by
  obtain ⟨xs, n, _, rfl, hl, hlen, hf⟩ := DataW.trod_struct ht h
  refine ⟨hl, fun j ty o c h1 h2 h3 => ?_⟩
  rw [← hty, List.getElem?_map] at h1
  obtain ⟨f, hfj, hf1⟩ := Option.map_eq_some_iff.1 h1
  rw [← hof, List.getElem?_map, hfj] at h2
  rw [← hcl, List.getElem?_map, ← hty, List.getElem?_map, hfj] at h3
  simp only [Option.map_some, Option.some.injEq] at h2 h3
  have hj : fs[j]? = some f := by rw [← hfj]; simp
  have hjl : j < fs.size := (Array.getElem?_eq_some_iff.1 hj).1
  have h4 := hf j f hj
  rw [h2, h3, hf1] at h4
  have hy : xs[j]? = some (xs[j]'(by omega)) := List.getElem?_eq_getElem (by omega)
  refine ⟨n, _, h4.trans hy, ?_⟩
  simp only [Rows.uptoBulk]
  have := Bk.part_le (List.mem_map.2 ⟨_, List.getElem_mem (l := xs) (by omega : j < xs.length), rfl⟩ : (xs[j]'(by omega)).1 ∈ xs.map (·.1))
  omega
end
namespace Op
theorem choose_list8 {α : Type} {P : Nat → α → Prop} : ∀ n, (∀ i, i < n → ∃ c, P i c) → ∃ l : List α, l.length = n ∧ ∀ i (h : i < l.length), P i l[i]
  | 0, _ => ⟨[], rfl, fun i h => absurd h (by simp)⟩
  | n + 1, h => by
    obtain ⟨l, hl, hp⟩ := choose_list8 n (fun i hi => h i (by omega))
    obtain ⟨c, hc⟩ := h n (by omega)
    refine ⟨l ++ [c], by simp [hl], fun i hi => ?_⟩
    by_cases e : i < n
    · rw [List.getElem_append_left (by omega)]; exact hp i (by omega)
    · have : i = n := by simp at hi; omega
      subst this
      rw [List.getElem_append_right (by omega)]
      simp [hl, hc]
end Op
namespace O8
noncomputable def fieldsOf (t : TypeId) : Array Field := match Try.prog.underlying t with | some (.struct fs) => fs | _ => #[]
theorem u_snap : Try.prog.underlying 39 = some (.struct (fieldsOf 39)) := by kernel_rfl
theorem t_snap : (fieldsOf 39).toList.map (·.type) = [23, 23, 23, 9] := by kernel_rfl
theorem o_snap : (fieldsOf 39).toList.map (·.offset) = [0, 1, 2, 3] := by kernel_rfl
theorem c_snap : [23, 23, 23, 9].map Try.prog.cellsOf = [1, 1, 1, 1] := by kernel_rfl
theorem z_snap : Try.prog.cellsOf 39 = 4 := by kernel_rfl
theorem u_ent : Try.prog.underlying 77 = some (.struct (fieldsOf 77)) := by kernel_rfl
theorem t_ent : (fieldsOf 77).toList.map (·.type) = [23, 23, 3, 9] := by kernel_rfl
theorem o_ent : (fieldsOf 77).toList.map (·.offset) = [0, 1, 2, 3] := by kernel_rfl
theorem c_ent : [23, 23, 3, 9].map Try.prog.cellsOf = [1, 1, 1, 1] := by kernel_rfl
theorem z_ent : Try.prog.cellsOf 77 = 4 := by kernel_rfl
theorem b_ent : Try.prog.bytesOf 77 = 40 := by kernel_rfl
theorem u_call : Try.prog.underlying 58 = some (.struct (fieldsOf 58)) := by kernel_rfl
theorem t_call : (fieldsOf 58).toList.map (·.type) = [4, 37, 39, 40] := by kernel_rfl
theorem o_call : (fieldsOf 58).toList.map (·.offset) = [0, 1, 3, 7] := by kernel_rfl
theorem c_call : [4, 37, 39, 40].map Try.prog.cellsOf = [1, 2, 4, 1] := by kernel_rfl
theorem z_call : Try.prog.cellsOf 58 = 8 := by kernel_rfl
theorem b_call : Try.prog.bytesOf 58 = 88 := by kernel_rfl
theorem u_calls : Try.prog.underlying 55 = some (.slice 58) := by kernel_rfl
theorem u_bool : Try.prog.underlying 4 = some .bool := by kernel_rfl
theorem cells8 {cs : List Value} (h : cs.length = 8) : ∃ a b c d e f g i, cs = [a, b, c, d, e, f, g, i] := by
  match cs, h with
  | [a, b, c, d, e, f, g, i], _ => exact ⟨a, b, c, d, e, f, g, i, rfl⟩
theorem cells4 {cs : List Value} (h : cs.length = 4) : ∃ a b c d, cs = [a, b, c, d] := by
  match cs, h with
  | [a, b, c, d], _ => exact ⟨a, b, c, d, rfl⟩
end O8
section
variable {H : Type} {enc : TypeId × Value → H} {w : World}
theorem str_bound {d : DataW H} {s : ByteArray} (hd : d = .lit (.string s.data.toList)) (hs : Rows.uptoBulk d ≤ 1048576) : s.size ≤ 1048576 := by
  subst hd
  simp only [Rows.uptoBulk] at hs
  have e : s.data.toList.length = s.size := by rw [Array.length_toList]; rfl
  omega
theorem snap_cells_of {fuel : Nat} {cs : List Value} {x : DataW H × List MemPlace} (hf : DataW.trod enc Try.prog w 0 (fun _ => true) true fuel 39 cs = some x) (hs : Rows.uptoBulk x.1 ≤ 1048576) :
    ∃ s : Snp, cs = [.int .u64 s.index, .int .u64 s.term, .int .u64 s.config, .string s.data] ∧ s.Wf ∧ s.data.size ≤ 1048576 := by
  obtain ⟨hl, hff⟩ := struct_fields O8.u_snap hf O8.t_snap O8.o_snap O8.c_snap
  rw [O8.z_snap] at hl
  obtain ⟨c0, c1, c2, c3, rfl⟩ := O8.cells4 hl
  obtain ⟨n0, y0, a0, -⟩ := hff 0 _ _ _ rfl rfl rfl
  obtain ⟨n1, y1, a1, -⟩ := hff 1 _ _ _ rfl rfl rfl
  obtain ⟨n2, y2, a2, -⟩ := hff 2 _ _ _ rfl rfl rfl
  obtain ⟨n3, y3, a3, g3⟩ := hff 3 _ _ _ rfl rfl rfl
  simp only [List.drop_zero, List.take_succ_cons, List.take_zero, List.drop_succ_cons] at a0 a1 a2 a3
  obtain ⟨z0, e0, _, w0⟩ := DataW.trod_int O8.u_u64 a0
  obtain ⟨z1, e1, _, w1⟩ := DataW.trod_int O8.u_u64 a1
  obtain ⟨z2, e2, _, w2⟩ := DataW.trod_int O8.u_u64 a2
  obtain ⟨z3, e3, x3, w3⟩ := DataW.trod_string Op.u_string a3
  obtain ⟨m0, rfl, q0⟩ := O8.nat_of_wf w0
  obtain ⟨m1, rfl, q1⟩ := O8.nat_of_wf w1
  obtain ⟨m2, rfl, q2⟩ := O8.nat_of_wf w2
  cases e0; cases e1; cases e2; cases e3
  have hb := str_bound (d := y3.1) (by rw [x3]) (Nat.le_trans g3 hs)
  exact ⟨⟨m0, m1, m2, z3⟩, rfl, ⟨q0, q1, q2, Nat.le_trans hb (by decide)⟩, hb⟩
theorem ent_cells_of {fuel : Nat} {cs : List Value} {x : DataW H × List MemPlace} (hf : DataW.trod enc Try.prog w 0 (fun _ => true) true fuel 77 cs = some x) (hs : Rows.uptoBulk x.1 ≤ 1048576) :
    ∃ s : Ent, cs = [.int .u64 s.term, .int .u64 s.index, .int .i64 s.kind, .string s.data] ∧ s.Wf ∧ s.data.size ≤ 1048576 := by
  obtain ⟨hl, hff⟩ := struct_fields O8.u_ent hf O8.t_ent O8.o_ent O8.c_ent
  rw [O8.z_ent] at hl
  obtain ⟨c0, c1, c2, c3, rfl⟩ := O8.cells4 hl
  obtain ⟨n0, y0, a0, -⟩ := hff 0 _ _ _ rfl rfl rfl
  obtain ⟨n1, y1, a1, -⟩ := hff 1 _ _ _ rfl rfl rfl
  obtain ⟨n2, y2, a2, -⟩ := hff 2 _ _ _ rfl rfl rfl
  obtain ⟨n3, y3, a3, g3⟩ := hff 3 _ _ _ rfl rfl rfl
  simp only [List.drop_zero, List.take_succ_cons, List.take_zero, List.drop_succ_cons] at a0 a1 a2 a3
  obtain ⟨z0, e0, _, w0⟩ := DataW.trod_int O8.u_u64 a0
  obtain ⟨z1, e1, _, w1⟩ := DataW.trod_int O8.u_u64 a1
  obtain ⟨z2, e2, _, w2⟩ := DataW.trod_int O8.u_int a2
  obtain ⟨z3, e3, x3, w3⟩ := DataW.trod_string Op.u_string a3
  obtain ⟨m0, rfl, q0⟩ := O8.nat_of_wf w0
  obtain ⟨m1, rfl, q1⟩ := O8.nat_of_wf w1
  cases e0; cases e1; cases e2; cases e3
  have hb := str_bound (d := y3.1) (by rw [x3]) (Nat.le_trans g3 hs)
  exact ⟨⟨m0, m1, z2, z3⟩, rfl, ⟨q0, q1, w2, Nat.le_trans hb (by decide)⟩, hb⟩
/-- a row of entries that came in -/
theorem ents_of {fuel : Nat} {v : Value} {x : DataW H × List MemPlace} (h : DataW.trod enc Try.prog w 0 (fun _ => true) true fuel 40 [v] = some x) (hs : Rows.uptoBulk x.1 ≤ 1048576) :
    ∃ (l : List Ent) (ao : Option Addr) (cap : Nat), v = .slice ao l.length cap ∧ EntsIn w ao l ∧ l.length ≤ 1048576 ∧ (∀ e ∈ l, e.data.size ≤ 1048576) ∧ ∀ a, ao = some a → l = [] ∨ a.block < w.heap.size := by
  rcases open_slice En.u_ents h with ⟨hcs, _⟩ | ⟨a, len, cap, m, n, D, Pl, hcs, hb, hl, hm, hmm, hx, hi⟩
  · simp at hcs
    subst hcs
    exact ⟨[], none, 0, rfl, EntsIn.nil _ _, by simp, (fun e he => by cases he), fun a e => by cases e⟩
  · simp only [List.cons.injEq, and_true] at hcs
    subst hcs
    simp only [if_true] at hmm
    subst hmm
    rw [hx] at hs
    simp only [Rows.uptoBulk] at hs
    have hs0 := Bk.length_le (List.map D (List.range len))
    rw [List.length_map, List.length_range] at hs0
    have hall : ∀ i, i < len → ∃ e : Ent, w.cells? 0 (a.add (i * 4)) 4 = some [.int .u64 e.term, .int .u64 e.index, .int .i64 e.kind, .string e.data] ∧ e.Wf ∧ e.data.size ≤ 1048576 := by
      intro i hil
      obtain ⟨cs', hc, ht⟩ := hi i (by omega)
      rw [O8.z_ent] at hc
      have hp := Bk.part_le (List.mem_map.2 ⟨i, List.mem_range.2 hil, rfl⟩ : D i ∈ List.map D (List.range len))
      obtain ⟨e, rfl, hw⟩ := ent_cells_of ht (by show Rows.uptoBulk (D i) ≤ _; omega)
      exact ⟨e, hc, hw⟩
    obtain ⟨L, hL, hP⟩ := Op.choose_list8 len hall
    have hg : ∀ i (hi : i < L.length), L.getD i Ent.zero = L[i] := fun i hi => by rw [List.getD_eq_getElem?_getD, List.getElem?_eq_getElem hi]; rfl
    have hat : ∀ i, i < L.length → ∃ b off, a = ⟨b, off, none⟩ ∧ b < w.heap.size ∧
        w.cell? ⟨b, off + i * 4, none⟩ = some (.int .u64 (L.getD i Ent.zero).term) ∧ w.cell? ⟨b, off + i * 4 + 1, none⟩ = some (.int .u64 (L.getD i Ent.zero).index) ∧
        w.cell? ⟨b, off + i * 4 + 2, none⟩ = some (.int .i64 (L.getD i Ent.zero).kind) ∧ w.cell? ⟨b, off + i * 4 + 3, none⟩ = some (.string (L.getD i Ent.zero).data) := by
      intro i hiL
      obtain ⟨_, _, hc⟩ := World.cells?_some (hP i hiL).1
      have k0 := hc 0 (by omega)
      have k1 := hc 1 (by omega)
      have k2 := hc 2 (by omega)
      have k3 := hc 3 (by omega)
      obtain ⟨_, _, hc00⟩ := World.cells?_some (hP 0 (by omega)).1
      have k00 := hc00 0 (by omega)
      rw [Go.Deep.add_add] at k0 k1 k2 k3
      obtain ⟨b, off, spot⟩ := a
      have hspot : spot = none := by simpa [Addr.add] using World.cell?_spot k00
      subst hspot
      rw [Op.add_none] at k0 k1 k2 k3
      rw [hg i hiL]
      refine ⟨b, off, rfl, World.block_lt_of_cell? w _ k0, ?_, ?_, ?_, ?_⟩
      · simpa [Nat.add_assoc] using k0
      · simpa [Nat.add_assoc] using k1
      · simpa [Nat.add_assoc] using k2
      · simpa [Nat.add_assoc] using k3
    refine ⟨L, some a, m, by rw [hL], ⟨fun e he => ?_, by rw [hL]; omega, fun i hiL => ?_⟩, by rw [hL]; omega, fun e he => ?_, fun a' e => ?_⟩
    · obtain ⟨i, hi', rfl⟩ := List.mem_iff_getElem.1 he
      exact (hP i hi').2.1
    · obtain ⟨b, off, e, _, h4⟩ := hat i hiL
      exact ⟨b, off, by rw [e], h4⟩
    · obtain ⟨i, hi', rfl⟩ := List.mem_iff_getElem.1 he
      exact (hP i hi').2.2
    · cases e
      rcases Nat.eq_zero_or_pos L.length with h0 | h0
      · exact .inl (List.length_eq_zero_iff.1 h0)
      · obtain ⟨b, off, e, hb, _⟩ := hat 0 h0
        exact .inr (by rw [e]; exact hb)
theorem call_cells_of {fuel : Nat} {cs : List Value} {x : DataW H × List MemPlace} (hf : DataW.trod enc Try.prog w 0 (fun _ => true) true fuel 58 cs = some x) (hs : Rows.uptoBulk x.1 ≤ 1048576) :
    ∃ c : CallS, cs = [.bool c.anew, .int .u64 c.hard.term, .int .i64 c.hard.vote, .int .u64 c.snap.index, .int .u64 c.snap.term, .int .u64 c.snap.config, .string c.snap.data, .slice c.ao c.es.length c.cap] ∧
      c.hard.Wf ∧ c.snap.Wf ∧ EntsIn w c.ao c.es ∧ c.es.length ≤ 1048576 ∧ (∀ a, c.ao = some a → c.es = [] ∨ a.block < w.heap.size) ∧ (∀ e ∈ c.es, e.data.size ≤ 1048576) ∧ c.snap.data.size ≤ 1048576 := by
  obtain ⟨hl, hff⟩ := struct_fields O8.u_call hf O8.t_call O8.o_call O8.c_call
  rw [O8.z_call] at hl
  obtain ⟨c0, c1, c2, c3, c4, c5, c6, c7, rfl⟩ := O8.cells8 hl
  obtain ⟨n0, y0, a0, -⟩ := hff 0 _ _ _ rfl rfl rfl
  obtain ⟨n1, y1, a1, -⟩ := hff 1 _ _ _ rfl rfl rfl
  obtain ⟨n2, y2, a2, g2⟩ := hff 2 _ _ _ rfl rfl rfl
  obtain ⟨n3, y3, a3, g3⟩ := hff 3 _ _ _ rfl rfl rfl
  simp only [List.drop_zero, List.take_succ_cons, List.take_zero, List.drop_succ_cons] at a0 a1 a2 a3
  obtain ⟨z0, e0, _⟩ := DataW.trod_bool O8.u_bool a0
  obtain ⟨h, e1, hw⟩ := hard_cells_of a1
  obtain ⟨p, e2, pw, pb⟩ := snap_cells_of a2 (Nat.le_trans g2 hs)
  obtain ⟨l, ao, cap, e3, hin, hle, hdt, hold⟩ := ents_of a3 (Nat.le_trans g3 hs)
  cases e0; cases e1; cases e2; subst e3
  exact ⟨⟨z0, h, p, ao, cap, l⟩, rfl, hw, pw, hin, hle, hold, hdt, pb⟩
/-- a list of calls that is an argument -/
theorem open_calls8 {v : Value} {d : DataW H} {p : List MemPlace} {r : Reach} {base : Nat} (hv : Value.okWide Try.prog w r base 55 v) (h : DataW.Trod enc Try.prog w 0 (fun _ => true) true 55 v d p) (hs : Rows.uptoBulk d ≤ 1048576) :
    ∃ x : List CallS × Option Addr × Nat, v = .slice x.2.1 x.1.length x.2.2 ∧ CallsS w x.2.1 x.1 := by
  obtain ⟨a0, len0, cap0, rfl⟩ := okWide_slice O8.u_calls hv
  obtain ⟨fuel, hf⟩ := h
  have hf' : DataW.trod enc Try.prog w 0 (fun _ => true) true fuel 55 [.slice a0 len0 cap0] = some (d, p) := by simpa [Value.cells] using hf
  rcases open_slice O8.u_calls hf' with ⟨hcs, _⟩ | ⟨a, len, cap, m, n, D, Pl, hcs, hb, hl, hm, hmm, hx, hel⟩
  · simp at hcs
    obtain ⟨rfl, rfl, rfl⟩ := hcs
    exact ⟨⟨[], none, 0⟩, rfl, by simp, fun i hi => by simp at hi, fun i hi => by simp at hi, fun i hi => by simp at hi, fun i hi => by simp at hi, fun i hi => by simp at hi, fun i hi => by simp at hi, fun i hi => by simp at hi, fun i hi => by simp at hi⟩
  · simp only [List.cons.injEq, Value.slice.injEq, and_true] at hcs
    obtain ⟨rfl, rfl, rfl⟩ := hcs
    simp only [if_true] at hmm
    subst hmm
    simp only [Prod.mk.injEq] at hx
    obtain ⟨rfl, _⟩ := hx
    simp only [Rows.uptoBulk] at hs
    have hs0 := Bk.length_le (List.map D (List.range len0))
    rw [List.length_map, List.length_range] at hs0
    have hall : ∀ i, i < len0 → ∃ c : CallS, w.cells? 0 (a.add (i * 8)) 8 = some [.bool c.anew, .int .u64 c.hard.term, .int .i64 c.hard.vote, .int .u64 c.snap.index, .int .u64 c.snap.term, .int .u64 c.snap.config, .string c.snap.data, .slice c.ao c.es.length c.cap] ∧
        c.hard.Wf ∧ c.snap.Wf ∧ EntsIn w c.ao c.es ∧ c.es.length ≤ 1048576 ∧ (∀ a, c.ao = some a → c.es = [] ∨ a.block < w.heap.size) ∧ (∀ e ∈ c.es, e.data.size ≤ 1048576) ∧ c.snap.data.size ≤ 1048576 := by
      intro i hil
      obtain ⟨cs', hc, ht⟩ := hel i (by omega)
      rw [O8.z_call] at hc
      have hp := Bk.part_le (List.mem_map.2 ⟨i, List.mem_range.2 hil, rfl⟩ : D i ∈ List.map D (List.range len0))
      obtain ⟨c, rfl, hw⟩ := call_cells_of ht (by show Rows.uptoBulk (D i) ≤ _; omega)
      exact ⟨c, hc, hw⟩
    obtain ⟨L, hL, hP⟩ := Op.choose_list8 len0 hall
    have hg : ∀ i (hi : i < L.length), L.getD i CallS.zero = L[i] := fun i hi => by rw [List.getD_eq_getElem?_getD, List.getElem?_eq_getElem hi]; rfl
    refine ⟨⟨L, some a, m⟩, by rw [hL], by show L.length ≤ _; omega, fun i hi => ?_, fun i hi => ?_, fun i hi => ?_, fun i hi => ?_, fun i hi => ?_, fun i hi => ?_, fun i hi => ?_, fun i hi => ?_⟩
    all_goals replace hi : i < L.length := hi
    · show (L.getD i CallS.zero).es.length ≤ _; rw [hg i hi]; exact (hP i hi).2.2.2.2.1
    · show ∀ e ∈ (L.getD i CallS.zero).es, _; rw [hg i hi]; exact (hP i hi).2.2.2.2.2.2.1
    · show (L.getD i CallS.zero).snap.data.size ≤ _; rw [hg i hi]; exact (hP i hi).2.2.2.2.2.2.2
    · show (L.getD i CallS.zero).hard.Wf; rw [hg i hi]; exact (hP i hi).2.1
    · show (L.getD i CallS.zero).snap.Wf; rw [hg i hi]; exact (hP i hi).2.2.1
    · obtain ⟨_, _, hc⟩ := World.cells?_some (hP i hi).1
      have k0 := hc 0 (by omega)
      have k1 := hc 1 (by omega)
      have k2 := hc 2 (by omega)
      have k3 := hc 3 (by omega)
      have k4 := hc 4 (by omega)
      have k5 := hc 5 (by omega)
      have k6 := hc 6 (by omega)
      have k7 := hc 7 (by omega)
      obtain ⟨_, _, hc00⟩ := World.cells?_some (hP 0 (by omega)).1
      have k00 := hc00 0 (by omega)
      rw [Go.Deep.add_add] at k0 k1 k2 k3 k4 k5 k6 k7
      obtain ⟨b, off, spot⟩ := a
      have hspot : spot = none := by simpa [Addr.add] using World.cell?_spot k00
      subst hspot
      rw [Op.add_none] at k0 k1 k2 k3 k4 k5 k6 k7
      refine ⟨b, off, rfl, ?_⟩
      show CallSAt w b (off + i * 8) (L.getD i CallS.zero)
      rw [hg i hi]
      exact ⟨by simpa [Nat.add_assoc] using k0, by simpa [Nat.add_assoc] using k1, by simpa [Nat.add_assoc] using k2, by simpa [Nat.add_assoc] using k3, by simpa [Nat.add_assoc] using k4, by simpa [Nat.add_assoc] using k5, by simpa [Nat.add_assoc] using k6, by simpa [Nat.add_assoc] using k7⟩
    · show EntsIn w (L.getD i CallS.zero).ao (L.getD i CallS.zero).es; rw [hg i hi]; exact (hP i hi).2.2.2.1
    · show ∀ a, (L.getD i CallS.zero).ao = some a → (L.getD i CallS.zero).es = [] ∨ _; rw [hg i hi]; exact (hP i hi).2.2.2.2.2.1
end
end Go.Proofs.Ytekmjhenhgmpgaa

/- Texts and lists of texts as the walks take them, by the bulk of what is read. -/
namespace Go.Proofs.Ytekmjhenhgmpgaa
open Go.RowKit Go.Maps Go.ChangeShapes Go.WideShapes Go.Deep
set_option maxRecDepth 100000
section
variable {H : Type} {enc : TypeId × Value → H} {w : World}
theorem open_str_b {v : Value} {d : DataW H} {p : List MemPlace} {r : Reach} {base : Nat} (hv : Value.okWide Try.prog w r base 9 v) (h : DataW.Trod enc Try.prog w 0 (fun _ => true) true 9 v d p) (hb : Rows.uptoBulk d ≤ 1048576) :
    ∃ s : ByteArray, v = .string s ∧ s.size ≤ 1048576 := by
  obtain ⟨s, rfl, hd, _, _⟩ := Go.ChangeMaps.open_string Op.u_string hv h
  exact ⟨s, rfl, str_bound hd hb⟩
theorem open_texts_b {v : Value} {d : DataW H} {p : List MemPlace} {r : Reach} {base : Nat} (hv : Value.okWide Try.prog w r base 22 v) (h : DataW.Trod enc Try.prog w 0 (fun _ => true) true 22 v d p) (hb : Rows.uptoBulk d ≤ 1048576) :
    ∃ x : List ByteArray × Option Addr × Nat, v = .slice x.2.1 x.1.length x.2.2 ∧ StrsIn w x.2.1 x.1 ∧ x.1.length ≤ 1048576 ∧ ∀ b ∈ x.1, b.size ≤ 1048576 := by
  obtain ⟨a, len, cap, rfl⟩ := okWide_slice St.u_strings hv
  obtain ⟨fuel, hf⟩ := h
  rcases open_strings (x := (d, p)) St.u_strings Op.u_string Op.c_string (by simpa [Value.cells] using hf) with ⟨hcs, _⟩ | ⟨a, len, cap, ss, hcs, _, hl, hm, hz, hx, hcell, _⟩
  · simp at hcs
    obtain ⟨rfl, rfl, rfl⟩ := hcs
    exact ⟨⟨[], none, 0⟩, rfl, StrsIn.none w, by simp, fun b hb => by cases hb⟩
  · simp at hcs
    obtain ⟨rfl, rfl, rfl⟩ := hcs
    have hz' : ss.length = cap := by simpa using hz
    have hlen : (ss.take len).length = len := by rw [List.length_take]; omega
    cases hx
    simp only [Rows.uptoBulk] at hb
    have h1 := Bk.length_le (strs (H := H) (ss.take len))
    have h2 : (strs (H := H) (ss.take len)).length = len := by simp only [strs, List.length_map, hlen]
    refine ⟨⟨ss.take len, some a, cap⟩, by rw [hlen], ⟨by rw [hlen]; omega, fun i hi => ?_⟩, by rw [hlen]; omega, fun b hbm => ?_⟩
    · have hi' : i < len := by simp only at hi; omega
      have hc := hcell i (by omega)
      have hc0 := hcell 0 (by omega)
      obtain ⟨b, off, spot⟩ := a
      have hspot : spot = none := by simpa [Addr.add] using World.cell?_spot hc0
      subst hspot
      refine ⟨b, off, rfl, ?_⟩
      have e : (ss.take len).getD i ByteArray.empty = ss.getD i ByteArray.empty := by simp [List.getD, List.getElem?_take, hi']
      show w.cell? _ = some (.string ((ss.take len).getD i ByteArray.empty))
      rw [e, ← Op.add_none]
      exact hc
    · have hd2 : (.lit (.string b.data.toList) : DataW H) ∈ strs (ss.take len) := List.mem_map.2 ⟨_, hbm, rfl⟩
      have h3 := Bk.part_le hd2
      simp only [Rows.uptoBulk] at h3
      have : b.data.toList.length = b.size := by simp
      omega
end
end Go.Proofs.Ytekmjhenhgmpgaa

/- Are a store's calls short? -/
namespace Go.Proofs.Ytekmjhenhgmpgaa
open Go.RowKit
set_option maxRecDepth 100000

namespace Lt
def ew (e : Ent) : Nat := e.data.size / 50
def es (l : List Ent) : Nat := (l.map ew).sum
def cw (c : CallS) : Nat := 1 + c.es.length + c.snap.data.size / 50 + es c.es
def lw (l : List CallS) : Nat := (l.map cw).sum
theorem es_snoc {l : List Ent} {k : Nat} (h : k < l.length) : es (l.take (k + 1)) = es (l.take k) + ew (l.getD k Ent.zero) := by
  have e : l.take (k + 1) = l.take k ++ [l.getD k Ent.zero] := by rw [List.take_add_one, List.getElem?_eq_getElem h, List.getD_eq_getElem?_getD, List.getElem?_eq_getElem h]; rfl
  rw [e]; unfold es; simp
theorem lw_snoc {l : List CallS} {k : Nat} (h : k < l.length) : lw (l.take (k + 1)) = lw (l.take k) + cw (l.getD k CallS.zero) := by
  have e : l.take (k + 1) = l.take k ++ [l.getD k CallS.zero] := by rw [List.take_add_one, List.getElem?_eq_getElem h, List.getD_eq_getElem?_getD, List.getElem?_eq_getElem h]; rfl
  rw [e]; unfold lw; simp
theorem es_le {l : List Ent} (h : ∀ e ∈ l, e.data.size ≤ 1048576) : es l ≤ 20972 * l.length := by
  induction l with
  | nil => simp [es]
  | cons x r ih =>
    have h1 := h x (by simp)
    have h2 := ih (fun e he => h e (by simp [he]))
    have e : es (x :: r) = ew x + es r := by simp [es]
    have h3 : ew x ≤ 20972 := by unfold ew; omega
    rw [e, List.length_cons]; omega
theorem cw_le {c : CallS} (h0 : c.es.length ≤ 1048576) (h1 : ∀ e ∈ c.es, e.data.size ≤ 1048576) (h2 : c.snap.data.size ≤ 1048576) : cw c ≤ 30000000000 := by
  have := es_le h1
  unfold cw
  omega
theorem lw_le {w : World} {ao : Option Addr} {l : List CallS} (h : CallsS w ao l) : ∀ k, k ≤ l.length → lw (l.take k) ≤ 30000000000 * k
  | 0, _ => by simp [lw]
  | k + 1, hk => by
    have := lw_le h k (by omega)
    have h1 := cw_le (h.few k (by omega)) (h.dat k (by omega)) (h.sdat k (by omega))
    rw [lw_snoc (by omega)]
    omega
end Lt

set_option maxHeartbeats 2000000 in
theorem light_at (w : World) (ao : Option Addr) (cap : Nat) (l : List CallS) (hl : CallsS w ao l) :
    Calls Try.prog 18 #[.slice ao l.length cap] w fun e w' => e = .returned (.bool (decide (Lt.lw l ≤ 400))) ∧ Only NoBlock w w' := by
  have hlen := hl.len
  go_enter Try.func18, Try.ntmps18
  go_wp2_with fail
  go_loopw [3, 10] (fun u3 u10 wr => ∃ (k x : Nat), k ≤ l.length ∧ u10 = .int .i64 k ∧ u3 = .int .i64 x ∧ RowKit.Hid (x = Lt.lw (l.take k)) ∧ x ≤ 30000000000 * k ∧ Only NoBlock w wr) (fun _ u10 _ => l.length - (intOf u10).toNat)
  case atStart => exact ⟨0, 0, by omega, rfl, rfl, Lib.hid rfl, by omega, Only.refl _ _⟩
  case round =>
    obtain ⟨k, x, hk, rfl, rfl, HX, hx, hn⟩ := hrel
    by_cases hlt : k < l.length
    · have hl2 := hl.keeps hn
      obtain ⟨b, off, rfl, hc⟩ := hl2.call k hlt
      obtain ⟨c0, c1, c2, c3, c4, c5, c6, c7⟩ := hc
      have hin := hl.ents k hlt
      have hfew := hl.few k hlt
      have hdat := hl.dat k hlt
      have hsd := hl.sdat k hlt
      have hcw := Lt.cw_le hfew hdat hsd
      have hsn := Lt.lw_snoc hlt
      have HCW : RowKit.Hid (Lt.cw (l.getD k CallS.zero) = 1 + (l.getD k CallS.zero).es.length + (l.getD k CallS.zero).snap.data.size / 50 + Lt.es (l.getD k CallS.zero).es) := Lib.hid rfl
      have HSN := Lib.hid hsn
      clear hsn hl2
      generalize Lt.cw (l.getD k CallS.zero) = y at hcw HSN HCW
      generalize l.getD k CallS.zero = c at *
      obtain ⟨ca, ⟨ct, cv⟩, ⟨si, st, sc, sd⟩, ao2, cap2, es⟩ := c
      simp only at c0 c1 c2 c3 c4 c5 c6 c7 hin hfew hdat hsd HCW
      have hA := hn.alloc (Obj.cells #[.bool ca, .int .u64 ct, .int .i64 cv, .int .u64 si, .int .u64 st, .int .u64 sc, .string sd, .slice ao2 es.length cap2] 58)
      go_wp2_with fail
      go_loopw [3, 29] (fun u3 u29 wq => ∃ (j z : Nat), j ≤ es.length ∧ u29 = .int .i64 j ∧ u3 = .int .i64 z ∧ RowKit.Hid (z = x + (1 + es.length + sd.size / 50) + Lt.es (es.take j)) ∧ z ≤ 30000000000 * k + 1 + 1048576 + 20972 + 20972 * j ∧ Only NoBlock w wq) (fun _ u29 _ => es.length - (intOf u29).toNat)
      case atStart => exact ⟨0, x + (1 + es.length + sd.size / 50), by omega, rfl, by congr 1, Lib.hid rfl, by omega, hA⟩
      case round =>
        obtain ⟨j, z, hj, rfl, rfl, HZ, hz, hn2⟩ := hrel
        by_cases hlt2 : j < es.length
        · obtain ⟨b2, off2, rfl, e0, e1, e2, e3⟩ := (hin.keeps hn2 (fun _ _ h => h)).cell j hlt2
          have hd2 : (es.getD j Ent.zero).data.size ≤ 1048576 := by rw [List.getD_eq_getElem?_getD, List.getElem?_eq_getElem hlt2]; exact hdat _ (List.getElem_mem hlt2)
          have hes := Lt.es_snoc hlt2
          have HEW : RowKit.Hid (Lt.ew (es.getD j Ent.zero) = (es.getD j Ent.zero).data.size / 50) := Lib.hid rfl
          have HES := Lib.hid hes
          clear hes
          generalize Lt.ew (es.getD j Ent.zero) = y2 at HES HEW
          generalize es.getD j Ent.zero = en at *
          obtain ⟨et, ei, ek, ed⟩ := en
          simp only at e0 e1 e2 e3 hd2 HEW
          have hA2 := hn2.alloc (Obj.cells #[.int .u64 et, .int .u64 ei, .int .i64 ek, .string ed] 77)
          go_wp2_with fail
          go_roundw
          case rel => exact ⟨j + 1, z + ed.size / 50, by omega, by go_num, by congr 1, Lib.hid (by rw [HES.out, HZ.out, HEW.out]; omega), by omega, hA2⟩
          case measure => simp [intOf]; omega
        · obtain rfl : j = es.length := by omega
          rw [List.take_length] at HZ
          go_wp2_with fail
          go_roundw
          case rel => exact ⟨k + 1, z, by omega, by go_num, rfl, Lib.hid (by rw [HZ.out, HSN.out, HCW.out, HX.out]; omega), by have := HZ.out; have := HCW.out; omega, hn2⟩
          case measure => simp [intOf]; omega
    · obtain rfl : k = l.length := by omega
      rw [List.take_length] at HX
      go_wp2_with fail
      go_ret
      have e : decide ((x : Int) ≤ 400) = decide (Lt.lw l ≤ 400) := by rw [← HX.out]; by_cases h : x ≤ 400 <;> simp [h] <;> omega
      exact ⟨by rw [← e]; rfl, hn⟩
end Go.Proofs.Ytekmjhenhgmpgaa

/- What calls of a store make of one file: how long it is, what it says. -/
namespace Go.Proofs.Ytekmjhenhgmpgaa
open Go.RowKit
set_option maxRecDepth 100000

namespace Sto
theorem text1 (x : ByteArray) : (Wal.text [x]).size ≤ 2 * x.size + 8 := by
  have e2 : Wal.text [x] = textOf (Wal.frame (nums x)) := by
    unfold Wal.text
    rw [List.map_cons, List.map_nil, Wal.frames_cons, Wal.frames_nil, List.append_nil]
  have h1 := Wal.frame_long (nums x)
  rw [nums_length] at h1
  rw [e2, textOf_size]
  omega
theorem text_cons (x : ByteArray) (l : List ByteArray) : (Wal.text (x :: l)).size = (Wal.text [x]).size + (Wal.text l).size := by
  have e : Wal.text (x :: l) = Wal.text [x] ++ Wal.text l := Wal.text_append [x] l
  rw [e, ByteArray.size_append]
theorem hardB_size {h : Hrd} (ht : h.term < 18446744073709551616) : (hardB h).size ≤ 27 := by
  unfold hardB Rc.hard
  rw [textOf_size]
  have h1 := num_len (x := 1) (by omega)
  have h2 := num_len ht
  have h3 := num_len (u64_lt (h.vote + 1))
  simp only [List.length_append]
  omega
theorem cutB_size {i : Nat} (hi : i < 18446744073709551616) : (cutB i).size ≤ 18 := by
  unfold cutB Rc.cut
  rw [textOf_size]
  have h1 := num_len (x := 3) (by omega)
  have h2 := num_len hi
  simp only [List.length_append]
  omega
theorem entB_size {e : Ent} (h : e.Wf) : (entB e).size ≤ 45 + e.data.size := by
  unfold entB Rc.entry Pk.text
  rw [textOf_size]
  have hd := h.data
  have h1 := num_len (x := 2) (by omega)
  have h2 := num_len h.term
  have h3 := num_len h.index
  have h4 := num_len (u64_lt e.kind)
  have h5 := num_len (x := (nums e.data).length) (by rw [nums_length]; omega)
  have h6 := nums_length e.data
  simp only [List.length_append]
  omega
theorem snapB_size {s : Snp} (h : s.Wf) : (snapB s).size ≤ 45 + s.data.size := by
  unfold snapB Rc.snap Pk.text
  rw [textOf_size]
  have hd := h.data
  have h1 := num_len (x := 4) (by omega)
  have h2 := num_len h.index
  have h3 := num_len h.term
  have h4 := num_len h.config
  have h5 := num_len (x := (nums s.data).length) (by rw [nums_length]; omega)
  have h6 := nums_length s.data
  simp only [List.length_append]
  omega
theorem text_ents : ∀ (l : List Ent), (∀ e ∈ l, e.Wf) → (Wal.text (l.map entB)).size ≤ 196 * l.length + 100 * Lt.es l
  | [], _ => by simp [Wal.text_nil, Lt.es]
  | e :: r, h => by
    have h1 := entB_size (h e (by simp))
    have h2 := text1 (entB e)
    have h3 := text_ents r (fun x hx => h x (by simp [hx]))
    have h4 : Lt.es (e :: r) = e.data.size / 50 + Lt.es r := by simp [Lt.es, Lt.ew]
    rw [List.map_cons, text_cons, List.length_cons, h4]
    omega
theorem ew_le {l : List Ent} : ∀ e ∈ l, e.data.size / 50 ≤ Lt.es l := by
  induction l with
  | nil => intro e he; cases he
  | cons x r ih =>
    have h4 : Lt.es (x :: r) = x.data.size / 50 + Lt.es r := by simp [Lt.es, Lt.ew]
    intro e he
    rcases List.mem_cons.1 he with rfl | he
    · omega
    · have := ih e he; omega
/-- all records are short -/
def Short (l : List ByteArray) : Prop := ∀ b ∈ l, b.size ≤ 65536
theorem Short.long {l : List ByteArray} (h : Short l) : Wal.long l = false := by
  unfold Wal.long
  rw [List.any_eq_false]
  intro x hx
  have := h x hx
  simp
  omega
theorem Short.append {a b : List ByteArray} (ha : Short a) (hb : Short b) : Short (a ++ b) := by
  intro x hx
  rcases List.mem_append.1 hx with h | h
  · exact ha x h
  · exact hb x h
theorem short_ents {l : List Ent} (h : ∀ e ∈ l, e.Wf) (hs : Lt.es l ≤ 400) : Short (l.map entB) := by
  intro b hb
  obtain ⟨e, he, rfl⟩ := List.mem_map.1 hb
  have h1 := entB_size (h e he)
  have h2 := ew_le e he
  omega
theorem out0_short {s : St} {h : Hrd} (hh : h.Wf) : Short (out0 s h) ∧ (Wal.text (out0 s h)).size ≤ 62 ∧ (out0 s h).length ≤ 1 := by
  unfold out0
  have h1 := hardB_size (h := h) hh.term
  have h2 := text1 (hardB h)
  split
  · exact ⟨(fun b hb => by cases hb), by simp [Wal.text_nil], by simp⟩
  · refine ⟨fun b hb => ?_, by omega, by simp⟩
    simp only [List.mem_singleton] at hb
    subst hb
    omega
theorem out1_short {s : St} {l : List Ent} (hl : ∀ e ∈ l, e.Wf) : Short (out1 s l) ∧ (Wal.text (out1 s l)).size ≤ 44 ∧ (out1 s l).length ≤ 1 := by
  unfold out1
  split
  next h =>
    have hi : (l.getD 0 Ent.zero).index < 18446744073709551616 := by
      rw [List.getD_eq_getElem?_getD, List.getElem?_eq_getElem h.1]
      exact (hl _ (List.getElem_mem h.1)).index
    have h1 := cutB_size hi
    have h2 := text1 (cutB (l.getD 0 Ent.zero).index)
    refine ⟨fun b hb => ?_, by omega, by simp⟩
    simp only [List.mem_singleton] at hb
    subst hb
    omega
  next => exact ⟨(fun b hb => by cases hb), by simp [Wal.text_nil], by simp⟩
theorem out_short {s : St} {h : Hrd} {l : List Ent} (hh : h.Wf) (hl : ∀ e ∈ l, e.Wf) (hs : Lt.es l ≤ 400) : Short (out s h l) ∧ (Wal.text (out s h l)).size ≤ 300 * (1 + l.length + Lt.es l) ∧ (out s h l).length ≤ 2 + l.length := by
  obtain ⟨a1, a2, a3⟩ := out0_short (s := s) hh
  obtain ⟨b1, b2, b3⟩ := out1_short (s := s) hl
  have c1 := short_ents hl hs
  have c2 := text_ents l hl
  unfold out
  refine ⟨(a1.append b1).append c1, ?_, by simp; omega⟩
  rw [Wal.text_append, Wal.text_append, ByteArray.size_append, ByteArray.size_append]
  omega
theorem anewR_short {s : St} (hh : s.hard.Wf) (hp : s.snap.Wf) (hl : ∀ e ∈ s.es, e.Wf) (hs : Lt.es s.es ≤ 400) (hd : s.snap.data.size / 50 ≤ 400) :
    Short (anewR s) ∧ (Wal.text (anewR s)).size ≤ 300 * (1 + s.es.length + s.snap.data.size / 50 + Lt.es s.es) := by
  have a1 := hardB_size (h := s.hard) hh.term
  have a2 := text1 (hardB s.hard)
  have b1 := snapB_size hp
  have b2 := text1 (snapB s.snap)
  have c1 := short_ents hl hs
  have c2 := text_ents s.es hl
  unfold anewR
  constructor
  · intro b hb
    rcases List.mem_cons.1 hb with rfl | hb
    · omega
    · rcases List.mem_cons.1 hb with rfl | hb
      · omega
      · exact c1 b hb
  · rw [text_cons, text_cons (snapB s.snap)]
    omega

/-- what a file says: short records that make a right state, and how long it is -/
structure Iv (A : ByteArray) (s : St) (m : Nat) : Prop where
  ex : ∃ R, A = Wal.text R ∧ said (first 7) R = some s ∧ Short R
  right : rb s = true
  size : A.size ≤ 300 * m
  len : s.es.length ≤ 3 * m
  wf : ∀ e ∈ s.es, e.Wf
  sd : s.snap.data.size ≤ 32768
def D (A : ByteArray) : DM := one 0 (some (A, ByteArray.empty)) (-1) false
theorem cut_wf {s s' : St} {b : ByteArray} (h : take s b = some s') (hw : ∀ e ∈ s.es, e.Wf) : ∀ e ∈ s'.es, e.Wf := by
  unfold take takeK at h
  have hb : ∀ c ∈ (r0 b).s, 0 ≤ c ∧ c ≤ 255 := Pk.numR_byte (nums_byte b)
  have h2 := Pk.numR_byte hb
  repeat' split at h
  all_goals first
    | cases h; done
    | (cases h; exact hw)
    | skip
  · cases h
    intro e he
    rcases List.mem_append.1 he with he | he
    · exact hw e he
    · simp only [List.mem_singleton] at he
      subst he
      have hu := up_le (Pk.numR (Pk.numR (r0 b))) 2
      have ht := text_le (entR (r0 b)) 65536
      exact ⟨Pk.numV_lt hb, Pk.numV_lt h2, WalkArith.wf_i64 ⟨by show (-9223372036854775808 : Int) ≤ ((_ : Nat) : Int); omega, by show (((Pk.numR (Pk.numR (r0 b))).up 2).1 : Int) ≤ _; omega⟩, by show (textOf _).size ≤ _; rw [textOf_size]; omega⟩
  · cases h
    intro e he
    exact hw e ((List.takeWhile_sublist _).subset he)
  · cases h
    intro e he
    cases he
theorem said_wf : ∀ (l : List ByteArray) (s s' : St), said s l = some s' → (∀ e ∈ s.es, e.Wf) → ∀ e ∈ s'.es, e.Wf
  | [], s, s', h, hw => by cases h; exact hw
  | c :: l, s, s', h, hw => by
    unfold said at h
    cases hc : take s c with
    | none => rw [hc] at h; cases h
    | some s1 =>
      rw [hc] at h
      exact said_wf l s1 s' h (cut_wf hc hw)
theorem kind_hard {h : Hrd} (ht : h.term < 18446744073709551616) : kind (hardB h) = 1 := by
  unfold kind hardB; rw [nums_textOf (hard_byte ht)]; unfold Rc.hard; rw [List.append_assoc]; exact Pk.numV_num (by omega) _
theorem kind_cut {i : Nat} (hi : i < 18446744073709551616) : kind (cutB i) = 3 := by
  unfold kind cutB; rw [nums_textOf (cut_byte hi)]; unfold Rc.cut; exact Pk.numV_num (by omega) _
theorem kind_ent {e : Ent} (h : e.Wf) : kind (entB e) = 2 := by
  have := h.data
  unfold kind entB; rw [nums_textOf (ent_byte h.term h.index (by omega))]; unfold Rc.entry; simp only [List.append_assoc]; exact Pk.numV_num (by omega) _
theorem take_same {s s' : St} {b : ByteArray} (h : take s b = some s') (hk : kind b ≠ 4) : s'.snap = s.snap := by
  unfold take takeK at h
  repeat' split at h
  all_goals first
    | cases h; done
    | (cases h; rfl)
    | exact absurd (by assumption) hk
theorem said_same : ∀ (l : List ByteArray) (s s' : St), (∀ b ∈ l, kind b ≠ 4) → said s l = some s' → s'.snap = s.snap
  | [], s, s', _, h => by cases h; rfl
  | c :: l, s, s', hk, h => by
    unfold said at h
    cases hc : take s c with
    | none => rw [hc] at h; cases h
    | some s1 =>
      rw [hc] at h
      rw [said_same l s1 s' (fun b hb => hk b (by simp [hb])) h, take_same hc (hk c (by simp))]
theorem out_kind {s : St} {h : Hrd} {l : List Ent} (hh : h.Wf) (hl : ∀ e ∈ l, e.Wf) : ∀ b ∈ out s h l, kind b ≠ 4 := by
  intro b hb
  unfold out out0 out1 at hb
  rcases List.mem_append.1 hb with hb | hb
  · rcases List.mem_append.1 hb with hb | hb
    · split at hb
      · cases hb
      · simp only [List.mem_singleton] at hb; subst hb; rw [kind_hard hh.term]; decide
    · split at hb
      next h1 =>
        simp only [List.mem_singleton] at hb; subst hb
        rw [kind_cut (by rw [List.getD_eq_getElem?_getD, List.getElem?_eq_getElem h1.1]; exact (hl _ (List.getElem_mem h1.1)).index)]; decide
      · cases hb
  · obtain ⟨e, he, rfl⟩ := List.mem_map.1 hb
    rw [kind_ent (hl e he)]; decide
theorem Iv.start : Iv ByteArray.empty (first 7) 0 :=
  ⟨⟨[], rfl, rfl, fun b hb => by cases hb⟩, by decide +kernel, by decide, by decide, (fun e he => by cases he), by decide⟩
/-- Save, on a disk that has fuel and room -/
theorem save_go {A : ByteArray} {s : St} {m : Nat} {h : Hrd} {l : List Ent} (hI : Iv A s m) (hh : h.Wf) (hl : ∀ e ∈ l, e.Wf) (hb : m + (1 + l.length + Lt.es l) ≤ 400) :
    ∃ A' s', saveE (D A) 0 s h l = (match saved s h l with | none => 1 | some _ => 0) ∧ saveM (D A) 0 s h l = D A' ∧ saveS (D A) 0 s h l = s' ∧ Iv A' s' (m + (1 + l.length + Lt.es l)) ∧
      (match saved s h l with | none => A' = A ∧ s' = s | some s2 => A' = A ++ Wal.text (out s h l) ∧ s' = s2) := by
  obtain ⟨o1, o2, o3⟩ := out_short (s := s) hh hl (by omega)
  have hz := hI.size
  have hzl := hI.len
  cases hs : saved s h l with
  | none =>
    refine ⟨A, s, by unfold saveE; rw [hs], by unfold saveM; rw [hs], by unfold saveS; rw [hs], ⟨hI.ex, hI.right, by omega, by omega, hI.wf, hI.sd⟩, rfl, rfl⟩
  | some s2 =>
    have hsd : said s (out s h l) = some s2 ∧ rb s2 = true := by
      unfold saved rightO at hs
      cases hsd : said s (out s h l) with
      | none => rw [hsd] at hs; cases hs
      | some s3 =>
        rw [hsd] at hs
        simp only at hs
        split at hs
        next hr => cases hs; exact ⟨rfl, hr⟩
        next => cases hs
    by_cases h0 : (out s h l).length = 0
    · have hn : out s h l = [] := List.length_eq_zero_iff.1 h0
      have hs2 : s2 = s := by rw [hn] at hsd; exact (Option.some.inj hsd.1).symm
      refine ⟨A, s, by unfold saveE; rw [hs]; simp only; rw [if_pos h0], by unfold saveM; rw [hs]; simp only; rw [if_pos h0], by unfold saveS; rw [hs]; simp only; rw [if_pos h0], ⟨hI.ex, hI.right, by omega, by omega, hI.wf, hI.sd⟩, ?_, hs2.symm⟩
      rw [hn, Wal.text_nil]; simp
    · obtain ⟨g1, g2⟩ := One.app_go (n := 0) (by decide) (by decide) (A := A) (B := ByteArray.empty) (l := out s h l) (F := -1) o1.long (by decide) (by decide) (by have : ByteArray.empty.size = 0 := rfl; omega)
      have hap : A ++ (ByteArray.empty ++ Wal.text (out s h l)) = A ++ Wal.text (out s h l) := by simp
      have hd : One.dec (One.dec (-1)) = -1 := rfl
      rw [hap, hd] at g2
      refine ⟨A ++ Wal.text (out s h l), s2, ?_, ?_, ?_, ⟨?_, hsd.2, ?_, ?_, ?_, ?_⟩, rfl, rfl⟩
      · unfold saveE; rw [hs]; simp only; rw [if_neg h0]; exact g1
      · unfold saveM; rw [hs]; simp only; rw [if_neg h0]; exact g2
      · unfold saveS; rw [hs]; simp only; rw [if_neg h0, if_pos (show Wal.appE (D A) 0 (out s h l) = 0 from g1)]
      · obtain ⟨R, r1, r2, r3⟩ := hI.ex
        refine ⟨R ++ out s h l, by rw [Wal.text_append, r1], ?_, r3.append o1⟩
        rw [said_append, r2]
        exact hsd.1
      · rw [ByteArray.size_append]; omega
      · have := said_len _ _ _ hsd.1
        omega
      · exact said_wf _ _ _ hsd.1 hI.wf
      · rw [said_same _ _ _ (out_kind hh hl) hsd.1]; exact hI.sd
theorem Iv.more {A : ByteArray} {s : St} {m n : Nat} (h : Iv A s m) (hmn : m ≤ n) : Iv A s n :=
  ⟨h.ex, h.right, by have := h.size; omega, by have := h.len; omega, h.wf, h.sd⟩
theorem open_new : Sto.openE (DM.new 1048576) 0 7 = 0 ∧ Sto.openM (DM.new 1048576) 0 7 = D ByteArray.empty ∧ said (first 7) (Wal.openL (DM.new 1048576) 0) = some (first 7) := by
  obtain ⟨e1, e2, e3⟩ := One.open_none (n := 0) (by decide) (by decide)
  rw [← One.new] at e1 e2 e3
  refine ⟨?_, ?_, by rw [e3]; rfl⟩
  · unfold Sto.openE
    rw [if_neg (by decide), if_neg (by rw [e1]; decide), e3]
    decide +kernel
  · unfold Sto.openM
    rw [if_neg (by decide), e2]
    rfl
theorem read_D (A : ByteArray) : (D A).readE 0 = 0 ∧ (D A).read 0 = A := by
  obtain ⟨h1, h2⟩ := One.read_some (n := 0) (A := A) (B := ByteArray.empty) (F := -1)
  exact ⟨h1, by rw [show (D A).read 0 = A ++ ByteArray.empty from h2]; simp⟩
theorem lw_take_le (l : List CallS) (k : Nat) : Lt.lw (l.take k) ≤ Lt.lw l := by
  have : Lt.lw l = Lt.lw (l.take k) + Lt.lw (l.drop k) := by
    conv => lhs; rw [← List.take_append_drop k l]
    simp only [Lt.lw, List.map_append, List.sum_append]
  omega
theorem text_one (x : ByteArray) : Wal.text [x] = textOf (Wal.frame (nums x)) := by
  unfold Wal.text
  rw [List.map_cons, List.map_nil, Wal.frames_cons, Wal.frames_nil, List.append_nil]
theorem saved_now {s : St} (h : rb s = true) : saved s s.hard [] = some s ∧ out s s.hard [] = [] := by
  have ho : out s s.hard [] = [] := by unfold out out0 out1; simp
  refine ⟨?_, ho⟩
  unfold saved
  rw [ho]
  show (if rb s = true then some s else none) = some s
  rw [if_pos h]
theorem saved_vote {s : St} {h : Hrd} (hs : rb s = true) (hh : h.Wf) (hne : ¬ (h.term = s.hard.term ∧ h.vote = s.hard.vote)) :
    out s h [] = [hardB h] ∧ saved s h [] = if -1 ≤ h.vote ∧ h.vote < 7 then some ⟨h, s.snap, s.es⟩ else none := by
  have ho : out s h [] = [hardB h] := by unfold out out0 out1; rw [if_neg hne]; simp
  refine ⟨ho, ?_⟩
  unfold saved
  rw [ho]
  show rightO (match take s (hardB h) with | none => none | some s' => some s') = _
  rw [take_hard hh.term (wf_both hh.vote)]
  by_cases hv : -1 ≤ h.vote ∧ h.vote < 7
  · rw [if_pos hv]
    have hr : rightB h s.snap s.es = true := by
      unfold rb rightB at hs
      rw [Bool.and_eq_true] at hs
      unfold rightB
      rw [hs.1]
      simpa using hv
    show (if rightB h s.snap s.es = true then some (⟨h, s.snap, s.es⟩ : St) else none) = _
    rw [if_pos hr]
  · rw [if_neg hv]
    rfl
theorem save_vote_go {A : ByteArray} {s : St} {h : Hrd} (hA : A.size ≤ 120000) (hs : rb s = true) (hh : h.Wf) (hne : ¬ (h.term = s.hard.term ∧ h.vote = s.hard.vote)) (hv : -1 ≤ h.vote ∧ h.vote < 7) :
    saveE (D A) 0 s h [] = 0 ∧ saveM (D A) 0 s h [] = D (A ++ textOf (Wal.frame (nums (hardB h)))) := by
  obtain ⟨ho, hsv⟩ := saved_vote hs hh hne
  rw [if_pos hv] at hsv
  have hz := hardB_size (h := h) hh.term
  have ht := text1 (hardB h)
  have hl : Wal.long [hardB h] = false := Short.long (fun b hb => by simp only [List.mem_singleton] at hb; subst hb; omega)
  obtain ⟨g1, g2⟩ := One.app_go (n := 0) (by decide) (by decide) (A := A) (B := ByteArray.empty) (l := [hardB h]) (F := -1) hl (by decide) (by decide) (by have : ByteArray.empty.size = 0 := rfl; omega)
  have hap : A ++ (ByteArray.empty ++ Wal.text [hardB h]) = A ++ textOf (Wal.frame (nums (hardB h))) := by rw [text_one]; simp
  have hd : One.dec (One.dec (-1)) = -1 := rfl
  rw [hap, hd] at g2
  constructor
  · unfold saveE; rw [hsv, ho]; exact g1
  · unfold saveM; rw [hsv, ho]; exact g2
theorem save_vote_no {A : ByteArray} {s : St} {h : Hrd} (hs : rb s = true) (hh : h.Wf) (hv : ¬ (-1 ≤ h.vote ∧ h.vote < 7)) :
    saveE (D A) 0 s h [] = 1 ∧ saveM (D A) 0 s h [] = D A := by
  have hne : ¬ (h.term = s.hard.term ∧ h.vote = s.hard.vote) := fun e => hv (by rw [e.2]; exact right_vote hs)
  obtain ⟨ho, hsv⟩ := saved_vote hs hh hne
  rw [if_neg hv] at hsv
  constructor
  · unfold saveE; rw [hsv]
  · unfold saveM; rw [hsv]
theorem save_vote_same {A : ByteArray} {s : St} {h : Hrd} (hs : rb s = true) (he : h = s.hard) : saveE (D A) 0 s h [] = 0 ∧ saveM (D A) 0 s h [] = D A := by
  subst he
  obtain ⟨n1, n2⟩ := saved_now hs
  constructor
  · unfold saveE; rw [n1, n2]; rfl
  · unfold saveM; rw [n1, n2]; rfl
end Sto
end Go.Proofs.Ytekmjhenhgmpgaa

/- What is opened behind calls of a store: the state that it told; what Anew makes of a file. -/
namespace Go.Proofs.Ytekmjhenhgmpgaa
open Go.RowKit
set_option maxRecDepth 100000

namespace Sto
theorem left_firm (A : ByteArray) (k : Int) : leftFile (A, ByteArray.empty) k = some (A, ByteArray.empty) := by
  have e0 : ByteArray.empty.size = 0 := rfl
  unfold leftFile
  simp only [e0]
  rw [if_neg (by simp)]
  have : (max 0 (min k ((0 : Nat) : Int))).toNat = 0 := by omega
  rw [this]
  have e1 : ByteArray.empty.extract 0 0 = ByteArray.empty := rfl
  rw [e1, ByteArray.append_empty]
theorem crash_D (A : ByteArray) (keep : Int → Int) : (D A).crash keep = D A := by
  unfold D
  rw [One.crash]
  simp only [left_firm]
theorem Short.recs {l : List ByteArray} (h : Short l) : Wal.Recs (l.map nums) := by
  intro x hx
  obtain ⟨s, hs, rfl⟩ := List.mem_map.1 hx
  exact ⟨nums_byte _, by rw [nums_length]; exact h s hs⟩
theorem nums_text {l : List ByteArray} (h : Short l) : nums (Wal.text l) = Wal.frames (l.map nums) := by
  unfold Wal.text
  exact nums_textOf (Wal.frames_byte h.recs)
theorem scan_text {l : List ByteArray} (h : Short l) : Wal.scan (nums (Wal.text l)) = (l.map nums, (Wal.text l).size) := by
  have h1 := Wal.scan_frames h.recs (t := []) (by intro x hx; cases hx) Wal.first_nil
  rw [List.append_nil] at h1
  rw [nums_text h, h1, Wal.text_size]
theorem recs_text {l : List ByteArray} (h : Short l) : Wal.recs (Wal.text l) = l := by
  unfold Wal.recs
  rw [scan_text h]
  show (l.map nums).map textOf = l
  rw [List.map_map]
  conv => rhs; rw [← List.map_id l]
  exact List.map_congr_left (fun x _ => textOf_nums x)
/-- a file of records is opened -/
theorem open_text {n : Int} (h0 : 0 ≤ n) (h1 : n < 16) {R : List ByteArray} {m : Nat} {s : St} (hR : Short R) (hz : (Wal.text R).size ≤ 1048576) (hm : Qu.soundB m = true) (hs : said (first m) R = some s) (hr : rb s = true) :
    openE (one n (some (Wal.text R, ByteArray.empty)) (-1) false) n m = 0 ∧ said (first m) (Wal.openL (one n (some (Wal.text R, ByteArray.empty)) (-1) false) n) = some s := by
  have e0 : ByteArray.empty.size = 0 := rfl
  obtain ⟨g1, g2, g3⟩ := One.open_some h0 h1 (A := Wal.text R) (B := ByteArray.empty) (by omega)
  rw [ByteArray.append_empty, recs_text hR] at g3
  refine ⟨?_, by rw [g3]; exact hs⟩
  unfold openE
  rw [if_neg (by rw [hm]; decide), if_neg (by rw [g1]; decide), g3, hs]
  show (if rb s = true then (0 : Int) else 2) = 0
  rw [if_pos hr]
theorem Iv.opened {A : ByteArray} {s : St} {m : Nat} (h : Iv A s m) (hm : m ≤ 400) : openE (D A) 0 7 = 0 ∧ said (first 7) (Wal.openL (D A) 0) = some s := by
  obtain ⟨R, rfl, h2, h3⟩ := h.ex
  have := h.size
  exact open_text (by decide) (by decide) h3 (by omega) (by decide) h2 h.right

/-- how many letters the entries have -/
def tot (l : List Ent) : Nat := (l.map (fun e => e.data.size)).sum
theorem up_len (r : Pk.RD) (k : Nat) : (r.up k).2.s.length ≤ r.s.length := by
  unfold Pk.RD.up
  split
  · exact Pk.numR_le r
  · exact Nat.zero_le _
theorem text_len (r : Pk.RD) (k : Nat) : (r.text k).1.length ≤ r.s.length := by
  have := up_len r k
  unfold Pk.RD.text
  simp only
  split
  · rw [List.length_take]; omega
  · simp
theorem r0_len (b : ByteArray) : (r0 b).s.length ≤ b.size := by
  have := Pk.numR_le ⟨nums b, false⟩
  rw [nums_length] at this
  exact this
theorem take_tot {s s' : St} {b : ByteArray} (h : take s b = some s') : tot s'.es ≤ tot s.es + b.size := by
  unfold take takeK at h
  have h0 := r0_len b
  have h1 := Pk.numR_le (r0 b)
  have h2 := Pk.numR_le (Pk.numR (r0 b))
  have h3 := up_len (Pk.numR (Pk.numR (r0 b))) 2
  have h4 := text_len (entR (r0 b)) 65536
  have h5 : (entR (r0 b)).s.length ≤ (Pk.numR (Pk.numR (r0 b))).s.length := h3
  repeat' split at h
  all_goals first
    | cases h; done
    | (cases h; simp only; omega)
    | skip
  · cases h
    have e : tot (s.es ++ [entV (r0 b)]) = tot s.es + (entV (r0 b)).data.size := by simp [tot]
    have e2 : (entV (r0 b)).data.size = ((entR (r0 b)).text 65536).1.length := by unfold entV; simp only; rw [textOf_size]
    show tot (s.es ++ [entV (r0 b)]) ≤ _
    rw [e, e2]; omega
  · cases h
    have : ∀ (l : List Ent) (p : Ent → Bool), tot (l.takeWhile p) ≤ tot l := by
      intro l p
      induction l with
      | nil => simp [tot]
      | cons x r ih =>
        have e : tot (x :: r) = x.data.size + tot r := by simp [tot]
        rw [List.takeWhile_cons]
        split
        · have e2 : tot (x :: r.takeWhile p) = x.data.size + tot (r.takeWhile p) := by simp [tot]
          omega
        · simp [tot]
    have := this s.es (fun e => decide (e.index < Pk.numV (r0 b).s))
    show tot (cutOff _ _) ≤ _
    unfold cutOff
    omega
  · cases h
    simp [tot]
theorem text_sizes : ∀ (l : List ByteArray), (l.map (fun b => b.size)).sum ≤ (Wal.text l).size
  | [] => by simp
  | x :: r => by
    have h := text_sizes r
    have h1 := Wal.frame_in (l := [x]) (k := 0) (by simp)
    rw [text_cons, List.map_cons, List.sum_cons]
    simp only [List.getD_cons_zero] at h1
    omega
theorem said_tot : ∀ (l : List ByteArray) (s s' : St), said s l = some s' → tot s'.es ≤ tot s.es + (l.map (fun b => b.size)).sum
  | [], s, s', h => by cases h; simp
  | c :: l, s, s', h => by
    unfold said at h
    cases hc : take s c with
    | none => rw [hc] at h; cases h
    | some s1 =>
      rw [hc] at h
      have h1 := take_tot hc
      have h2 := said_tot l s1 s' h
      rw [List.map_cons, List.sum_cons]
      omega
theorem Iv.tot {A : ByteArray} {s : St} {m : Nat} (h : Iv A s m) : Sto.tot s.es ≤ 300 * m := by
  obtain ⟨R, h1, h2, h3⟩ := h.ex
  have h4 := said_tot R _ _ h2
  have h5 := text_sizes R
  have h6 := h.size
  rw [h1] at h6
  have : Sto.tot (first 7).es = 0 := rfl
  omega
theorem text_ents2 : ∀ (l : List Ent), (∀ e ∈ l, e.Wf) → (Wal.text (l.map entB)).size ≤ 98 * l.length + 2 * tot l
  | [], _ => by simp [Wal.text_nil, tot]
  | e :: r, h => by
    have h1 := entB_size (h e (by simp))
    have h2 := text1 (entB e)
    have h3 := text_ents2 r (fun x hx => h x (by simp [hx]))
    have h4 : tot (e :: r) = e.data.size + tot r := by simp [tot]
    rw [List.map_cons, text_cons, List.length_cons, h4]
    omega
/-- all of a state that calls made, as records -/
theorem Iv.fits {A : ByteArray} {s : St} {m : Nat} (h : Iv A s m) (hm : m ≤ 400) (hh : s.hard.Wf) (hp : s.snap.Wf) : Short (anewR s) ∧ (Wal.text (anewR s)).size ≤ 500000 ∧ anewOk s = true := by
  have a1 := hardB_size (h := s.hard) hh.term
  have a2 := text1 (hardB s.hard)
  have b1 := snapB_size hp
  have b2 := text1 (snapB s.snap)
  have c2 := text_ents2 s.es h.wf
  have t := h.tot
  have l := h.len
  have d := h.sd
  have r := right_ents h.right
  refine ⟨?_, ?_, ?_⟩
  · unfold anewR
    intro b hb
    rcases List.mem_cons.1 hb with rfl | hb
    · omega
    · rcases List.mem_cons.1 hb with rfl | hb
      · omega
      · obtain ⟨e, he, rfl⟩ := List.mem_map.1 hb
        have h1 := entB_size (h.wf e he)
        have h2 := (r e he).2.2
        omega
  · unfold anewR
    rw [text_cons, text_cons (snapB s.snap)]
    omega
  · unfold anewOk
    have : rightB s.hard s.snap s.es = true := h.right
    rw [this]
    simpa using d
/-- Anew, on a disk that has fuel and room -/
theorem anew_go {A : ByteArray} {s c : St} {m : Nat} (hI : Iv A s m) (hh : c.hard.Wf) (hp : c.snap.Wf) (hl : ∀ e ∈ c.es, e.Wf) (hb : m + (1 + c.es.length + c.snap.data.size / 50 + Lt.es c.es) ≤ 400) :
    ∃ A' s', anewE (D A) 0 c = (if anewOk c = true then 0 else 1) ∧ anewM (D A) 0 c = D A' ∧ anewS (D A) 0 s c = s' ∧ Iv A' s' (m + (1 + c.es.length + c.snap.data.size / 50 + Lt.es c.es)) ∧
      (if anewOk c = true then A' = Wal.text (anewR c) ∧ s' = c else A' = A ∧ s' = s) := by
  have hz := hI.size
  have hzl := hI.len
  by_cases hok : anewOk c = true
  · obtain ⟨f1, f2⟩ := anewR_short hh hp hl (by omega) (by omega)
    obtain ⟨g1, g2⟩ := One.anew_go (n := 0) (by decide) (by decide) (o := some (A, ByteArray.empty)) (l := anewR c) (F := -1) f1.long (by decide) (by omega)
    have hd : One.dec (-1) = -1 := rfl
    rw [hd] at g2
    have hok2 := hok
    unfold anewOk at hok2
    rw [Bool.and_eq_true, decide_eq_true_eq] at hok2
    refine ⟨Wal.text (anewR c), c, ?_, ?_, ?_, ⟨⟨anewR c, rfl, said_anew hh hp hl hok, f1⟩, hok2.1, by omega, by omega, hl, hok2.2⟩, by rw [if_pos hok]; exact ⟨rfl, rfl⟩⟩
    · unfold anewE; rw [if_pos hok, if_pos hok]; exact g1
    · unfold anewM; rw [if_pos hok]; exact g2
    · unfold anewS; rw [if_pos hok, if_pos (show Wal.anewE (D A) 0 (anewR c) = 0 from g1)]
  · refine ⟨A, s, ?_, ?_, ?_, ⟨hI.ex, hI.right, by omega, by omega, hI.wf, hI.sd⟩, by rw [if_neg hok]; exact ⟨rfl, rfl⟩⟩
    · unfold anewE; rw [if_neg hok, if_neg hok]
    · unfold anewM; rw [if_neg hok]
    · unfold anewS; rw [if_neg hok]
/-- the other disk: opened, a state laid anew, opened again -/
theorem other {s : St} (hh : s.hard.Wf) (hp : s.snap.Wf) (hl : ∀ e ∈ s.es, e.Wf) (hs : Short (anewR s)) (hz : (Wal.text (anewR s)).size ≤ 500000) (hok : anewOk s = true) :
    openE (DM.new 1048576) 3 1 = 0 ∧ said (first 1) (Wal.openL (DM.new 1048576) 3) = some (first 1) ∧
    anewE (openM (DM.new 1048576) 3 1) 3 s = 0 ∧ anewM (openM (DM.new 1048576) 3 1) 3 s = one 3 (some (Wal.text (anewR s), ByteArray.empty)) (-1) false ∧
    openE (one 3 (some (Wal.text (anewR s), ByteArray.empty)) (-1) false) 3 1 = 0 ∧ said (first 1) (Wal.openL (one 3 (some (Wal.text (anewR s), ByteArray.empty)) (-1) false) 3) = some s := by
  obtain ⟨e1, e2, e3⟩ := One.open_none (n := 3) (by decide) (by decide)
  rw [← One.new] at e1 e2 e3
  have hM : openM (DM.new 1048576) 3 1 = one 3 (some (ByteArray.empty, ByteArray.empty)) (-1) false := by
    unfold openM; rw [if_neg (by decide), e2]
  obtain ⟨g1, g2⟩ := One.anew_go (n := 3) (by decide) (by decide) (o := some (ByteArray.empty, ByteArray.empty)) (l := anewR s) (F := -1) hs.long (by decide) (by omega)
  have hd : One.dec (-1) = -1 := rfl
  rw [hd] at g2
  have hr : rb s = true := by
    unfold anewOk at hok
    rw [Bool.and_eq_true] at hok
    exact hok.1
  obtain ⟨o1, o2⟩ := open_text (n := 3) (by decide) (by decide) hs (by omega) (m := 1) (by decide) (said_anew hh hp hl hok) hr
  refine ⟨?_, by rw [e3]; rfl, ?_, ?_, o1, o2⟩
  · unfold openE
    rw [if_neg (by decide), if_neg (by rw [e1]; decide), e3]
    decide +kernel
  · unfold anewE; rw [if_pos hok, hM]; exact g1
  · unfold anewM; rw [if_pos hok, hM]; exact g2
end Sto
end Go.Proofs.Ytekmjhenhgmpgaa
