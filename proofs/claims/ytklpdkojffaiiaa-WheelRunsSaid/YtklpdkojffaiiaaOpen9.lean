/- The arguments of the wheel's statements as the walks take them: a list of numbers; a list of calls. -/
import Derived.Test.YtklpdkojffaiiaaInts
import Derived.ProofKit
import Derived.Deep.Slices
import Derived.Deep.Fields
import Derived.ChangeSame
namespace Go.Proofs.Ytklpdkojffaiiaa
open Go.RowKit Go.Maps Go.ChangeShapes Go.WideShapes Go.Deep

theorem O9.u_int : Try.prog.underlying 3 = some (.int .i64) := by kernel_rfl
theorem add_none (b off j : Nat) : (⟨b, off, none⟩ : Addr).add j = ⟨b, off + j, none⟩ := by unfold Addr.add; split <;> simp_all

section
variable {H : Type} {enc : TypeId × Value → H} {w : World}

/-- a list of numbers that is an argument -/
theorem open_numbers {fuel : Nat} {v : Value} {x : DataW H × List MemPlace} (h : DataW.trod enc Try.prog w 0 (fun _ => true) true fuel 27 [v] = some x) :
    ∃ (l : List Int) (ao : Option Addr) (cap : Nat), v = .slice ao l.length cap ∧ IntsIn w ao l := by
  rcases open_ints Nu.u_ints O9.u_int (by kernel_rfl) h with ⟨hcs, _⟩ | ⟨a, len, cap, zs, hcs, _, hl, hm, hz, _, hcell, hwz⟩
  · simp at hcs
    subst hcs
    exact ⟨[], none, 0, rfl, by simp, by simp, fun i hi => absurd hi (by simp)⟩
  · simp at hcs
    subst hcs
    have hz' : zs.length = cap := by simpa using hz
    have hlen : (zs.take len).length = len := by rw [List.length_take]; omega
    refine ⟨zs.take len, some a, cap, by rw [hlen], fun y hy => hwz y (List.mem_of_mem_take hy), by rw [hlen]; omega, fun i hi => ?_⟩
    have hi' : i < len := by omega
    have hc := hcell i (by omega)
    have hc0 := hcell 0 (by omega)
    obtain ⟨b, off, spot⟩ := a
    have hspot : spot = none := by simpa [Addr.add] using World.cell?_spot hc0
    subst hspot
    refine ⟨b, off, rfl, ?_⟩
    have e : (zs.take len).getD i 0 = zs.getD i 0 := by simp [List.getD, hi']
    rw [e, ← add_none]
    exact hc

theorem open_numbers_arg {v : Value} {d : DataW H} {p : List MemPlace} {r : Reach} {base : Nat} (_hv : Value.okWide Try.prog w r base 27 v) (h : DataW.Trod enc Try.prog w 0 (fun _ => true) true 27 v d p) :
    ∃ x : List Int × Option Addr × Nat, v = .slice x.2.1 x.1.length x.2.2 ∧ IntsIn w x.2.1 x.1 := by
  obtain ⟨a, len, cap, rfl⟩ := okWide_slice Nu.u_ints _hv
  obtain ⟨fuel, hf⟩ := h
  obtain ⟨l, ao, cap', e, hi⟩ := open_numbers (by simpa [Value.cells] using hf)
  exact ⟨⟨l, ao, cap'⟩, e, hi⟩

/-- one field of one element of a list of structs of one-cell fields -/
theorem struct_field {fs : Array Field} {t e : TypeId} {fuel : Nat} {cs : List Value} {x : DataW H × List MemPlace} (he : Try.prog.underlying e = some (.struct fs)) (hone : oneCellFields Try.prog fs = true) (hC : Try.prog.cellsOf e = fs.size)
    (ht : Try.prog.underlying t = some (.slice e)) (h : DataW.trod enc Try.prog w 0 (fun _ => true) true fuel t cs = some x) :
    (cs = [.slice none 0 0]) ∨ ∃ (a : Addr) (len cap : Nat), cs = [.slice (some a) len cap] ∧ len ≤ cap ∧ cap ≤ maxLen ∧
      ∀ i, i < len → ∀ (j : Nat) (f : Field), fs[j]? = some f → ∃ (v : Value) (n : Nat) (y : DataW H × List MemPlace), w.cell? (a.add (i * fs.size + j)) = some v ∧ DataW.trod enc Try.prog w 0 (fun _ => true) true n f.type [v] = some y := by
  rcases open_slice ht h with ⟨h0, _⟩ | ⟨a, len, cap, m, n, D, Pl, hcs, hb, hl, hm, hmm, hx, hi⟩
  · exact .inl h0
  · refine .inr ⟨a, len, cap, hcs, hl, hm, fun i him j f hj => ?_⟩
    have hmc : m = cap := by simpa using hmm
    obtain ⟨cs', hc, ht'⟩ := hi i (by omega)
    rw [hC] at hc
    obtain ⟨ys, n', hn', hy, hlen, hyl, hf⟩ := DataW.trod_struct he ht'
    obtain ⟨_, hcl, hat⟩ := World.cells?_some hc
    obtain ⟨ho, hk⟩ := hone_of hone j f hj
    have hjl : j < fs.size := (Array.getElem?_eq_some_iff.1 hj).1
    have hcell := hat j hjl
    have hv : cs'[j]? = some (cs'[j]'(by omega)) := List.getElem?_eq_getElem (by omega)
    have h1 := hf j f hj
    rw [ho, hk] at h1
    have hone' : (cs'.drop j).take 1 = [cs'[j]'(by omega)] := by
      rw [List.drop_eq_getElem_cons (by omega)]
      rfl
    rw [hone'] at h1
    have hys : ys[j]? = some (ys[j]'(by omega)) := List.getElem?_eq_getElem (by omega)
    exact ⟨_, _, _, by rw [← Go.Deep.add_add, hcell, hv], h1.trans hys⟩
end

theorem choose_list {α : Type} {P : Nat → α → Prop} : ∀ n, (∀ i, i < n → ∃ c, P i c) → ∃ l : List α, l.length = n ∧ ∀ i (h : i < l.length), P i l[i]
  | 0, _ => ⟨[], rfl, fun i h => absurd h (by simp)⟩
  | n + 1, h => by
    obtain ⟨l, hl, hp⟩ := choose_list n (fun i hi => h i (by omega))
    obtain ⟨c, hc⟩ := h n (by omega)
    refine ⟨l ++ [c], by simp [hl], fun i hi => ?_⟩
    by_cases e : i < n
    · rw [List.getElem_append_left (by omega)]; exact hp i (by omega)
    · have : i = n := by simp at hi; omega
      subst this
      rw [List.getElem_append_right (by omega)]
      simp [hl, hc]

/-- a call of a wheel in plain data -/
structure CallW where
  kind : Int
  id : Int
  n : Int
/-- one call lies at b, o -/
structure CallAt9 (w : World) (b o : Nat) (c : CallW) : Prop where
  c0 : w.cell? ⟨b, o, none⟩ = some (.int .i64 c.kind)
  c1 : w.cell? ⟨b, o + 1, none⟩ = some (.int .i64 c.id)
  c2 : w.cell? ⟨b, o + 2, none⟩ = some (.int .i64 c.n)
  id : (Lit.int .i64 c.id).wf = true
  n : (Lit.int .i64 c.n).wf = true
structure CallsIn9 (w : World) (ao : Option Addr) (l : List CallW) : Prop where
  len : l.length ≤ maxLen
  call : ∀ i (h : i < l.length), ∃ b off, ao = some ⟨b, off, none⟩ ∧ CallAt9 w b (off + i * 3) l[i]
theorem CallsIn9.keeps {w w' : World} {ao : Option Addr} {l : List CallW} (h : CallsIn9 w ao l) (ho : Only NoBlock w w') : CallsIn9 w' ao l :=
  ⟨h.len, fun i hi => by
    obtain ⟨b, off, e, hc⟩ := h.call i hi
    have hb : w'.heap[b]? = w.heap[b]? := ho.block b (World.block_lt_of_cell? w _ hc.c0) (fun h => h)
    exact ⟨b, off, e, ⟨(World.cell?_of_block (a := ⟨b, off + i * 3, none⟩) hb).trans hc.c0, (World.cell?_of_block (a := ⟨b, off + i * 3 + 1, none⟩) hb).trans hc.c1, (World.cell?_of_block (a := ⟨b, off + i * 3 + 2, none⟩) hb).trans hc.c2, hc.id, hc.n⟩⟩⟩

noncomputable def callFields9 : Array Field := match Try.prog.underlying 37 with | some (.struct fs) => fs | _ => #[]
theorem u_call9 : Try.prog.underlying 37 = some (.struct callFields9) := by kernel_rfl
theorem call_one9 : oneCellFields Try.prog callFields9 = true := by kernel_rfl
theorem call_cells9 : Try.prog.cellsOf 37 = callFields9.size := by kernel_rfl
theorem call_size9 : callFields9.size = 3 := by kernel_rfl
theorem call_types9 : callFields9.toList.map (·.type) = [3, 3, 3] := by kernel_rfl

theorem open_calls9 {H : Type} {enc : TypeId × Value → H} {w : World} {v : Value} {d : DataW H} {p : List MemPlace} {r : Reach} {base : Nat} (hv : Value.okWide Try.prog w r base 35 v) (h : DataW.Trod enc Try.prog w 0 (fun _ => true) true 35 v d p) :
    ∃ x : List CallW × Option Addr × Nat, v = .slice x.2.1 x.1.length x.2.2 ∧ CallsIn9 w x.2.1 x.1 := by
  have ht : Try.prog.underlying 35 = some (.slice 37) := by kernel_rfl
  have h3 := call_size9
  have hty := call_types9
  have hu := u_call9
  have hone := call_one9
  have hC := call_cells9
  generalize callFields9 = fs at h3 hty hu hone hC
  obtain ⟨a, len, cap, rfl⟩ := okWide_slice ht hv
  obtain ⟨fuel, hf⟩ := h
  rcases struct_field hu hone hC ht (by simpa [Value.cells] using hf) with hcs | ⟨a, len, cap, hcs, hl, hm, hfield⟩
  · simp at hcs
    obtain ⟨rfl, rfl, rfl⟩ := hcs
    exact ⟨⟨[], none, 0⟩, rfl, by simp, fun i hi => absurd hi (by simp)⟩
  · simp at hcs
    obtain ⟨rfl, rfl, rfl⟩ := hcs
    have hfs : ∀ j, j < 3 → ∃ f, fs[j]? = some f ∧ [3, 3, 3][j]? = some f.type := by
      intro j hj
      have : fs[j]? = some fs[j] := Array.getElem?_eq_getElem (by omega)
      refine ⟨_, this, ?_⟩
      rw [← hty, List.getElem?_map]
      simp
      exact ⟨_, this, rfl⟩
    obtain ⟨f0, g0, t0⟩ := hfs 0 (by omega)
    obtain ⟨f1, g1, t1⟩ := hfs 1 (by omega)
    obtain ⟨f2, g2, t2⟩ := hfs 2 (by omega)
    simp at t0 t1 t2
    have hall : ∀ i, i < len → ∃ c : CallW, ∃ b off, a = ⟨b, off, none⟩ ∧ CallAt9 w b (off + i * 3) c := by
      intro i hi
      obtain ⟨v0, n0, y0, q0, r0⟩ := hfield i hi 0 f0 g0
      obtain ⟨v1, n1, y1, q1, r1⟩ := hfield i hi 1 f1 g1
      obtain ⟨v2, n2, y2, q2, r2⟩ := hfield i hi 2 f2 g2
      rw [← t0] at r0
      rw [← t1] at r1
      rw [← t2] at r2
      obtain ⟨x0, e0, _, w0⟩ := DataW.trod_int O9.u_int r0
      obtain ⟨x1, e1, _, w1⟩ := DataW.trod_int O9.u_int r1
      obtain ⟨x2, e2, _, w2⟩ := DataW.trod_int O9.u_int r2
      simp at e0 e1 e2
      subst e0 e1 e2
      obtain ⟨vz, nz, yz, qz, rz⟩ := hfield 0 (by omega) 0 f0 g0
      obtain ⟨b, off, spot⟩ := a
      have hspot : spot = none := by simpa [Addr.add] using World.cell?_spot qz
      subst hspot
      rw [h3, add_none] at q0 q1 q2
      refine ⟨⟨x0, x1, x2⟩, b, off, rfl, ?_, ?_, ?_, w1, w2⟩
      · simpa [Nat.add_assoc] using q0
      · simpa [Nat.add_assoc] using q1
      · simpa [Nat.add_assoc] using q2
    obtain ⟨l, hl1, hl2⟩ := choose_list len hall
    refine ⟨⟨l, some a, cap⟩, by simp [hl1], by simp [hl1]; omega, fun i hi => ?_⟩
    obtain ⟨b, off, e, hc⟩ := hl2 i hi
    exact ⟨b, off, by rw [e], hc⟩
end Go.Proofs.Ytklpdkojffaiiaa
