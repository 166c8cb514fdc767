/- The wheel in memory: its block, three rings, lists of timers. -/
import Derived.Test.YtklpdkojffaiiaaLists
namespace Go.Proofs.Ytklpdkojffaiiaa
open Go.RowKit Go.Shelf
set_option maxRecDepth 100000

namespace Wh
structure Tm where
  id : Int
  due : Nat
  turn : Int
def Tm.zero : Tm := ⟨0, 0, 0⟩
def Tm.cells (t : Tm) : List Value := [.int .i64 t.id, .int .u64 t.due, .int .i64 t.turn]
structure Tm.Wf (t : Tm) : Prop where
  id : (Lit.int .i64 t.id).wf = true
  due : t.due < 18446744073709551616
  turn : (Lit.int .i64 t.turn).wf = true
/-- the wheel in plain data: list number q of the 449 -/
structure Wl where
  now : Nat
  turn : Int
  n : Int
  L : Nat → List Tm
def Wl.has (M : Wl) (id : Int) : Bool := (List.range 449).any (fun q => (M.L q).any (fun t => decide (t.id = id)))
theorem u_tms : Try.prog.underlying 47 = some (.slice 53) := by kernel_rfl
theorem info_tm : (Try.prog.info? 53).map (fun i => (i.zero, i.size, i.bytes)) = some (some (.agg #[.int .i64 0, .int .u64 0, .int .i64 0]), 3, 24) := by kernel_rfl
theorem flat_length (l : List Tm) : (l.flatMap Tm.cells).length = l.length * 3 := by
  induction l with
  | nil => rfl
  | cons e r ih => rw [List.flatMap_cons, List.length_append, ih, List.length_cons]; show 3 + _ = _; omega
theorem flat_get : ∀ (l : List Tm) (i j : Nat), i < l.length → j < 3 → (l.flatMap Tm.cells)[i * 3 + j]? = (l.getD i Tm.zero).cells[j]?
  | [], _, _, h, _ => by simp at h
  | e :: r, 0, j, _, hj => by
    rw [List.flatMap_cons, Nat.zero_mul, Nat.zero_add, List.getElem?_append_left (by show j < 3; exact hj)]
    rfl
  | e :: r, i + 1, j, h, hj => by
    rw [List.flatMap_cons, List.getElem?_append_right (by show 3 ≤ _; omega)]
    have : (i + 1) * 3 + j - e.cells.length = i * 3 + j := by show (i + 1) * 3 + j - 3 = _; omega
    rw [this, flat_get r i j (by simpa using h) hj, List.getD_cons_succ]
/-- a row that is full, at the front of a block that may be longer -/
def Full (w : World) (base : Nat) (v : Value) (l : List Tm) : Prop := ∃ g cs, v = .slice (some ⟨g, 0, none⟩) l.length l.length ∧ base ≤ g ∧ w.heap[g]? = some (.cells cs 53 (0, 0)) ∧ l.length * 3 ≤ cs.size ∧ cs.toList.take (l.length * 3) = l.flatMap Tm.cells
/-- a row of timers of the wheel's own -/
def Tms (w : World) (base : Nat) (v : Value) (l : List Tm) : Prop := (w.ownsRow base 53 3 v l.length (l.flatMap Tm.cells) ∨ Full w base v l) ∧ (∀ t ∈ l, t.Wf) ∧ l.length ≤ 1000000
section
variable {w w' : World} {base : Nat} {v : Value} {l : List Tm}
theorem Tms.keeps {S : Nat → Prop} (h : Tms w base v l) (ho : Only S w w') (hs : ∀ k, v.ownBlock = some k → ¬ S k) : Tms w' base v l := by
  refine ⟨?_, h.2⟩
  rcases h.1 with h1 | ⟨g, cs, rfl, hb, hg, hz, ht⟩
  · exact .inl (row_keeps h1 ho hs)
  · exact .inr ⟨g, cs, rfl, hb, ho.keeps (hs g rfl) hg, hz, ht⟩
theorem Tms.nil (w : World) (base : Nat) : Tms w base (.slice none 0 0) [] := ⟨.inl (World.ownsRow_nil _ _ _ _), by simp, by simp⟩
theorem Tms.shape (h : Tms w base v l) : ∃ ao cap, v = .slice ao l.length cap := by
  rcases h.1 with h | ⟨g, cs, rfl, _⟩
  · rcases h.2 with ⟨h1, h0⟩ | ⟨g, cap, cur, rfl, _⟩
    · exact ⟨none, 0, by rw [h1, h0]⟩
    · exact ⟨_, cap, rfl⟩
  · exact ⟨_, _, rfl⟩
theorem Tms.lt (h : Tms w base v l) : ∀ k, v.ownBlock = some k → base ≤ k ∧ k < w.heap.size := by
  rcases h.1 with h | ⟨g, cs, rfl, hb, hg, _⟩
  · exact World.ownsRow.lt h
  · intro k hk
    simp [Value.ownBlock] at hk
    subst hk
    exact ⟨hb, (Array.getElem?_eq_some_iff.1 hg).1⟩
/-- a row's block and what lies in it -/
theorem Tms.lie {ao : Option Addr} {cap : Nat} (h : Tms w base (.slice ao l.length cap) l) : (ao = none ∧ l = [] ∧ cap = 0) ∨ ∃ g cs, ao = some ⟨g, 0, none⟩ ∧ base ≤ g ∧ w.heap[g]? = some (.cells cs 53 (0, 0)) ∧ l.length ≤ cap ∧ cap ≤ maxLen ∧ cap * 3 ≤ cs.size ∧ cs.toList.take (l.length * 3) = l.flatMap Tm.cells := by
  rcases h.1 with h1 | ⟨g, cs, h1, hb, hg, hz, ht⟩
  · rcases h1.2 with ⟨h1, h0⟩ | ⟨g, cap', cur, h1, hb, hg, hn, hm, hsz, ht⟩
    · simp only [Value.slice.injEq] at h1
      exact .inl ⟨h1.1, List.eq_nil_of_length_eq_zero h0, h1.2.2⟩
    · simp only [Value.slice.injEq] at h1
      obtain ⟨rfl, _, rfl⟩ := h1
      exact .inr ⟨g, cur, rfl, hb, hg, hn, hm, by omega, ht⟩
  · simp only [Value.slice.injEq] at h1
    obtain ⟨rfl, _, rfl⟩ := h1
    have := h.2.2
    exact .inr ⟨g, cs, rfl, hb, hg, Nat.le_refl _, by unfold maxLen; omega, hz, ht⟩
theorem Tms.cellAt {g n cap : Nat} (hn : n = l.length) (h : Tms w base (.slice (some ⟨g, 0, none⟩) n cap) l) {i j : Nat} (hi : i < l.length) (hj : j < 3) : w.cell? ⟨g, i * 3 + j, none⟩ = (l.getD i Tm.zero).cells[j]? := by
  subst hn
  rcases h.lie with ⟨h1, _⟩ | ⟨g', cs, h1, hb, hg, _, _, hz, ht⟩
  · cases h1
  · cases h1
    rw [cell_of_row w g (i * 3 + j) cs 53 (0, 0) hg, ← flat_get l i j hi hj, ← ht, List.getElem?_take, if_pos (by omega)]
    simp
theorem Tms.cell {ao : Option Addr} {cap : Nat} (h : Tms w base (.slice ao l.length cap) l) {i : Nat} (hi : i < l.length) : ∃ g, ao = some ⟨g, 0, none⟩ ∧
    w.cell? ⟨g, i * 3, none⟩ = some (.int .i64 (l.getD i Tm.zero).id) ∧ w.cell? ⟨g, i * 3 + 1, none⟩ = some (.int .u64 (l.getD i Tm.zero).due) ∧ w.cell? ⟨g, i * 3 + 2, none⟩ = some (.int .i64 (l.getD i Tm.zero).turn) := by
  rcases h.lie with ⟨_, h1, _⟩ | ⟨g, cs, rfl, _⟩
  · subst h1; simp at hi
  · exact ⟨g, rfl, Tms.cellAt rfl h hi (j := 0) (by decide), Tms.cellAt rfl h hi (j := 1) (by decide), Tms.cellAt rfl h hi (j := 2) (by decide)⟩
end
/-- the lists' own values; X: blocks that are not the wheel's -/
structure Vals (w : World) (base : Nat) (X : Nat → Prop) (p r0 r1 r2 : Nat) (M : Wl) (V : Nat → Value) : Prop where
  at_ : ∀ q, q < 449 → w.cell? (loc p r0 r1 r2 q) = some (V q) ∧ Tms w base (V q) (M.L q)
  two : ∀ q q', q < 449 → q' < 449 → q ≠ q' → ∀ b, (V q).ownBlock = some b → (V q').ownBlock ≠ some b
  out : ∀ q, q < 449 → ∀ b, (V q).ownBlock = some b → ¬ X b
structure WheelAt (w : World) (base : Nat) (X : Nat → Prop) (p r0 r1 r2 : Nat) (M : Wl) : Prop where
  bp : ∃ cs, Blk w p cs 49 ∧ cs.size = 7
  b0 : ∃ cs, Blk w r0 cs 47 ∧ cs.size = 64
  b1 : ∃ cs, Blk w r1 cs 47 ∧ cs.size = 128
  b2 : ∃ cs, Blk w r2 cs 47 ∧ cs.size = 256
  ne : r0 ≠ r1 ∧ r0 ≠ r2 ∧ r1 ≠ r2
  low : base ≤ p ∧ base ≤ r0 ∧ base ≤ r1 ∧ base ≤ r2
  now : w.cell? ⟨p, 0, none⟩ = some (.int .u64 M.now)
  turn : w.cell? ⟨p, 1, none⟩ = some (.int .i64 M.turn)
  rg : RG p r0 r1 r2 w
  cnt : w.cell? ⟨p, 6, none⟩ = some (.int .i64 M.n)
  px : ¬ X p ∧ ¬ X r0 ∧ ¬ X r1 ∧ ¬ X r2
  xlt : ∀ b, X b → b < w.heap.size
  ex : ∃ V : Nat → Value, Vals w base X p r0 r1 r2 M V
section
variable {w w' : World} {base p r0 r1 r2 : Nat} {X : Nat → Prop} {M : Wl}
theorem cell_same {a : Addr} {v : Value} (ho : Only NoBlock w w') (hc : w.cell? a = some v) : w'.cell? a = some v := by
  have hlt : a.block < w.heap.size := World.block_lt_of_cell? w _ hc
  have hb := ho.block a.block hlt (fun h => h)
  rw [← hc]
  simp [World.cell?, hb]
theorem RG.keeps (h : RG p r0 r1 r2 w) (ho : Only NoBlock w w') : RG p r0 r1 r2 w' := ⟨cell_same ho h.1, cell_same ho h.2.1, cell_same ho h.2.2⟩
theorem WheelAt.keeps (h : WheelAt w base X p r0 r1 r2 M) (ho : Only NoBlock w w') : WheelAt w' base X p r0 r1 r2 M := by
  obtain ⟨⟨c, h1, h1'⟩, ⟨c0, h2, h2'⟩, ⟨c1, h3, h3'⟩, ⟨c2, h4, h4'⟩, h5, h6, h7, h8, h9, h10, hx, hl, V, h11, h12, h13⟩ := h
  exact ⟨⟨c, h1.keeps ho (fun h => h), h1'⟩, ⟨c0, h2.keeps ho (fun h => h), h2'⟩, ⟨c1, h3.keeps ho (fun h => h), h3'⟩, ⟨c2, h4.keeps ho (fun h => h), h4'⟩, h5, h6, cell_same ho h7, cell_same ho h8, h9.keeps ho, cell_same ho h10, hx, fun b hb => Nat.lt_of_lt_of_le (hl b hb) ho.size, V, fun q hq => ⟨cell_same ho (h11 q hq).1, (h11 q hq).2.keeps ho (fun _ _ h => h)⟩, h12, h13⟩
theorem Tms.apart {t : TypeId} {cs : Array Value} {b : Nat} {v : Value} {l : List Tm} (h : Tms w base v l) (hb : Blk w b cs t) (ht : t ≠ 53) : v.ownBlock ≠ some b := by
  obtain ⟨ao, cap, rfl⟩ := h.shape
  rcases h.lie with ⟨rfl, _⟩ | ⟨g, cur, rfl, _, hg, _⟩
  · simp [Value.ownBlock]
  · intro e
    have e' : g = b := by simpa [Value.ownBlock] using e
    subst e'
    unfold Blk at hb
    rw [hb] at hg
    cases hg
    exact ht rfl
theorem blk_ne {b c : Nat} {cs ds : Array Value} {t u : TypeId} (h : Blk w b cs t) (k : Blk w c ds u) (hn : t ≠ u) : b ≠ c := by
  intro e
  subst e
  unfold Blk at h k
  rw [h] at k
  cases k
  exact hn rfl
theorem blk_set {b n : Nat} {t : TypeId} (h : ∃ cs, Blk w b cs t ∧ cs.size = n) (a : Addr) (ha : a.spot = none) (v : Value) : ∃ cs, Blk (w.setCell a v) b cs t ∧ cs.size = n := by
  obtain ⟨cs, h1, h2⟩ := h
  by_cases e : b = a.block
  · obtain ⟨ab, ao, az⟩ := a
    have e' : b = ab := e
    have ha' : az = none := ha
    subst e' ha'
    exact ⟨_, h1.setCell ao v, by simpa using h2⟩
  · exact ⟨cs, h1.setCell_other e v, h2⟩
theorem loc_spot (q : Nat) : (loc p r0 r1 r2 q).spot = none := by
  unfold loc
  split
  · rfl
  split
  · rfl
  split <;> rfl
theorem loc_block (q : Nat) : (loc p r0 r1 r2 q).block = p ∨ (loc p r0 r1 r2 q).block = r0 ∨ (loc p r0 r1 r2 q).block = r1 ∨ (loc p r0 r1 r2 q).block = r2 := by
  unfold loc
  split
  · exact .inr (.inl rfl)
  split
  · exact .inr (.inr (.inl rfl))
  split
  · exact .inr (.inr (.inr rfl))
  · exact .inl rfl
theorem loc_inj (h0 : p ≠ r0) (h1 : p ≠ r1) (h2 : p ≠ r2) (h01 : r0 ≠ r1) (h02 : r0 ≠ r2) (h12 : r1 ≠ r2) {q q' : Nat} (hq : q < 449) (hq' : q' < 449) (h : q ≠ q') : loc p r0 r1 r2 q ≠ loc p r0 r1 r2 q' := by
  intro e
  unfold loc at e
  repeat' split at e
  all_goals first
    | omega
    | (simp only [Addr.mk.injEq] at e; obtain ⟨e1, e2, -⟩ := e; first | (exact h0 e1) | (exact h1 e1) | (exact h2 e1) | (exact h01 e1) | (exact h02 e1) | (exact h12 e1) | (exact h0 e1.symm) | (exact h1 e1.symm) | (exact h2 e1.symm) | (exact h01 e1.symm) | (exact h02 e1.symm) | (exact h12 e1.symm) | omega)
theorem loc_not (h0 : p ≠ r0) (h1 : p ≠ r1) (h2 : p ≠ r2) (q i : Nat) (hi : i ≠ 5) : loc p r0 r1 r2 q ≠ ⟨p, i, none⟩ := by
  intro e
  unfold loc at e
  split at e
  · injection e with e1 e2; exact h0 e1.symm
  split at e
  · injection e with e1 e2; exact h1 e1.symm
  split at e
  · injection e with e1 e2; exact h2 e1.symm
  · injection e with e1 e2; exact hi e2.symm
def Wl.upd (M : Wl) (q : Nat) (l : List Tm) : Wl := { M with L := fun i => if i = q then l else M.L i }
theorem WheelAt.nes (h : WheelAt w base X p r0 r1 r2 M) : p ≠ r0 ∧ p ≠ r1 ∧ p ≠ r2 := by
  obtain ⟨c, h1, -⟩ := h.bp
  obtain ⟨c0, k0, -⟩ := h.b0
  obtain ⟨c1, k1, -⟩ := h.b1
  obtain ⟨c2, k2, -⟩ := h.b2
  exact ⟨blk_ne h1 k0 (by decide), blk_ne h1 k1 (by decide), blk_ne h1 k2 (by decide)⟩
/-- a list is laid anew: its row may have grown in place, or lie in new ground -/
theorem WheelAt.store {w1 : World} {q : Nat} {v : Value} {l : List Tm} {V : Nat → Value} (h : WheelAt w base X p r0 r1 r2 M) (hV : Vals w base X p r0 r1 r2 M V) (hq : q < 449) (hg : w.grownBy w1 (V q).ownBlock) (ht : Tms w1 base v l)
    (hb : ∀ b, v.ownBlock = some b → (V q).ownBlock = some b ∨ w.heap.size ≤ b) :
    WheelAt (w1.setCell (loc p r0 r1 r2 q) v) base X p r0 r1 r2 (M.upd q l) ∧ Only (fun k => base ≤ k ∧ ¬ X k) w (w1.setCell (loc p r0 r1 r2 q) v) := by
  obtain ⟨n0, n1, n2⟩ := h.nes
  obtain ⟨n01, n02, n12⟩ := h.ne
  have hTq := (hV.at_ q hq).2
  have hO := Only.of_grown hg
  obtain ⟨cp, hbp, hzp⟩ := h.bp
  obtain ⟨c0, hb0, hz0⟩ := h.b0
  obtain ⟨c1, hb1, hz1⟩ := h.b1
  obtain ⟨c2, hb2, hz2⟩ := h.b2
  have a0 : ¬ ((V q).ownBlock = some p) := hTq.apart hbp (by decide)
  have a1 : ¬ ((V q).ownBlock = some r0) := hTq.apart hb0 (by decide)
  have a2 : ¬ ((V q).ownBlock = some r1) := hTq.apart hb1 (by decide)
  have a3 : ¬ ((V q).ownBlock = some r2) := hTq.apart hb2 (by decide)
  have kp := hbp.keeps hO a0
  have k0 := hb0.keeps hO a1
  have k1 := hb1.keeps hO a2
  have k2 := hb2.keeps hO a3
  have cellp : ∀ i u, w.cell? ⟨p, i, none⟩ = some u → i ≠ 5 → (w1.setCell (loc p r0 r1 r2 q) v).cell? ⟨p, i, none⟩ = some u := fun i u hu hi => by
    rw [World.cell?_setCell_other _ _ _ _ (loc_not n0 n1 n2 q i hi), ← hu, hbp.cell i, kp.cell i]
  have ho2 : Only (fun k => base ≤ k ∧ ¬ X k) w1 (w1.setCell (loc p r0 r1 r2 q) v) := (Only.refl _ _).setCell (fun _ => by
    rcases loc_block (p := p) (r0 := r0) (r1 := r1) (r2 := r2) q with e | e | e | e <;> rw [e]
    · exact ⟨h.low.1, h.px.1⟩
    · exact ⟨h.low.2.1, h.px.2.1⟩
    · exact ⟨h.low.2.2.1, h.px.2.2.1⟩
    · exact ⟨h.low.2.2.2, h.px.2.2.2⟩) v
  have hownb : ∀ b, (V q).ownBlock = some b → base ≤ b ∧ ¬ X b := fun b e => ⟨(hTq.lt b e).1, hV.out q hq b e⟩
  -- rows are not touched by the store of the cell
  have rowset : ∀ {u : Value} {m : List Tm}, Tms w1 base u m → Tms (w1.setCell (loc p r0 r1 r2 q) v) base u m := fun {u m} hu =>
    Tms.keeps (S := fun k => k = (loc p r0 r1 r2 q).block) hu ((Only.refl (fun k => k = (loc p r0 r1 r2 q).block) w1).setCell (fun _ => rfl) v) (fun k e hk => by
      rcases loc_block (p := p) (r0 := r0) (r1 := r1) (r2 := r2) q with e1 | e1 | e1 | e1 <;> rw [e1] at hk <;> subst hk
      · exact hu.apart kp (by decide) e
      · exact hu.apart k0 (by decide) e
      · exact hu.apart k1 (by decide) e
      · exact hu.apart k2 (by decide) e)
  refine ⟨⟨blk_set ⟨cp, kp, hzp⟩ _ (loc_spot q) v, blk_set ⟨c0, k0, hz0⟩ _ (loc_spot q) v, blk_set ⟨c1, k1, hz1⟩ _ (loc_spot q) v, blk_set ⟨c2, k2, hz2⟩ _ (loc_spot q) v, h.ne, h.low, cellp _ _ h.now (by decide), cellp _ _ h.turn (by decide),
    ⟨cellp _ _ h.rg.1 (by decide), cellp _ _ h.rg.2.1 (by decide), cellp _ _ h.rg.2.2 (by decide)⟩, cellp _ _ h.cnt (by decide), h.px, fun b hx => ?_, fun i => if i = q then v else V i, ?_, ?_, ?_⟩, ?_⟩
  · have := h.xlt b hx; have := hg.size; simp; omega
  · intro i hi
    by_cases e : i = q
    · subst e
      simp only [if_true, Wl.upd]
      refine ⟨World.cell?_setCell_same' _ _ _ ?_, rowset ht⟩
      have hc := (hV.at_ i hi).1
      have : w1.cell? (loc p r0 r1 r2 i) = w.cell? (loc p r0 r1 r2 i) := World.cell?_of_block (hg.block _ (World.block_lt_of_cell? w _ hc) (fun e => by
        rcases loc_block (p := p) (r0 := r0) (r1 := r1) (r2 := r2) i with e1 | e1 | e1 | e1 <;> rw [e1] at e
        · exact a0 e.symm
        · exact a1 e.symm
        · exact a2 e.symm
        · exact a3 e.symm))
      rw [this, hc]; rfl
    · simp only [if_neg e, Wl.upd]
      obtain ⟨hc, hT⟩ := hV.at_ i hi
      refine ⟨?_, rowset (hT.keeps hO (fun k e1 e2 => hV.two i q hi hq e k e1 e2))⟩
      rw [World.cell?_setCell_other _ _ _ _ (loc_inj n0 n1 n2 n01 n02 n12 hq hi (fun e' => e e'.symm)), ← hc]
      exact World.cell?_of_block (hg.block _ (World.block_lt_of_cell? w _ hc) (fun e => by
        rcases loc_block (p := p) (r0 := r0) (r1 := r1) (r2 := r2) i with e1 | e1 | e1 | e1 <;> rw [e1] at e
        · exact a0 e.symm
        · exact a1 e.symm
        · exact a2 e.symm
        · exact a3 e.symm))
  · intro i j hi hj hij b
    have hlt : ∀ k, k < 449 → ∀ b, (V k).ownBlock = some b → b < w.heap.size := fun k hk b e => ((hV.at_ k hk).2.lt b e).2
    by_cases e : i = q <;> by_cases e' : j = q
    · omega
    · simp only [if_pos e, if_neg e']
      intro h1 h2
      rcases hb b h1 with h3 | h3
      · exact hV.two j q hj hq e' b h2 h3
      · have := hlt j hj b h2; omega
    · simp only [if_neg e, if_pos e']
      intro h1 h2
      rcases hb b h2 with h3 | h3
      · exact hV.two i q hi hq e b h1 h3
      · have := hlt i hi b h1; omega
    · simp only [if_neg e, if_neg e']
      exact hV.two i j hi hj hij b
  · intro i hi b
    by_cases e : i = q
    · simp only [if_pos e]
      intro h1 hx
      rcases hb b h1 with h3 | h3
      · exact hV.out q hq b h3 hx
      · have := h.xlt b hx; omega
    · simp only [if_neg e]
      exact hV.out i hi b
  · exact (hO.mono (fun k e => hownb k e)).trans ho2
end
end Wh
theorem keepsO {W W' : World} (h : Only NoBlock W W') : KeepsOthers W W' := ⟨h.size, fun _ _ hk _ => h.keeps (fun h => h) hk⟩
theorem only_put {S : Nat → Prop} {w W : World} {l : Nat} (o : Obj) (h : Only S w W) (hl : w.heap.size ≤ l) : Only S w (W.putObj l o) :=
  h.andThen (Only.of_grown (grownBy_putObj' W l o)) (fun i hi e => by cases e; omega)
end Go.Proofs.Ytklpdkojffaiiaa
