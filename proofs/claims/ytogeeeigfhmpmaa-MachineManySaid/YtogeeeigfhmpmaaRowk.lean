/- Rows of structs of any kind: of a call's own (appended to, written in place) and read. Over any program. -/
import Derived.Test.YtogeeeigfhmpmaaBase
import Derived.Maps.AppendAt
namespace Go.Proofs.Ytogeeeigfhmpmaa
open Go.RowKit

/-- a kind of struct: what lies in its cells -/
structure RowK (α : Type) where
  cells : α → List Value
  k : Nat
  zero : α
  pos : 0 < k
  len : ∀ x, (cells x).length = k
  one : ∀ x, ∀ u ∈ cells x, u.oneCell' = true

section
variable {α : Type} (K : RowK α)
theorem RowK.flat_length (l : List α) : (l.flatMap K.cells).length = l.length * K.k := by
  induction l with
  | nil => simp
  | cons e r ih => rw [List.flatMap_cons, List.length_append, ih, List.length_cons, K.len, Nat.add_mul]; omega
theorem RowK.flat_get : ∀ (l : List α) (i j : Nat), i < l.length → j < K.k → (l.flatMap K.cells)[i * K.k + j]? = (K.cells (l.getD i K.zero))[j]?
  | [], _, _, h, _ => by simp at h
  | e :: r, 0, j, _, hj => by
    rw [List.flatMap_cons, Nat.zero_mul, Nat.zero_add, List.getElem?_append_left (by rw [K.len]; exact hj)]
    rfl
  | e :: r, i + 1, j, h, hj => by
    rw [List.flatMap_cons, List.getElem?_append_right (by rw [K.len, Nat.add_mul]; omega)]
    have : (i + 1) * K.k + j - (K.cells e).length = i * K.k + j := by rw [K.len, Nat.add_mul]; omega
    rw [this, RowK.flat_get r i j (by simpa using h) hj, List.getD_cons_succ]
theorem RowK.place_lt {n i j : Nat} (hi : i < n) (hj : j < K.k) : i * K.k + j < n * K.k := by
  have h1 : (i + 1) * K.k ≤ n * K.k := Nat.mul_le_mul_right _ hi
  rw [Nat.add_mul] at h1
  omega
theorem RowK.flat_one (l : List α) : ∀ u ∈ l.flatMap K.cells, u.oneCell' = true := by
  intro u hu
  obtain ⟨e, _, he⟩ := List.mem_flatMap.1 hu
  exact K.one e u he
theorem RowK.flat_set : ∀ (l : List α) (i j : Nat) (y : α) (u : Value), i < l.length → j < K.k → K.cells y = (K.cells (l.getD i K.zero)).set j u → (l.set i y).flatMap K.cells = (l.flatMap K.cells).set (i * K.k + j) u
  | [], _, _, _, _, h, _, _ => by simp at h
  | e :: r, 0, j, y, u, _, hj, hy => by
    rw [List.set_cons_zero, List.flatMap_cons, List.flatMap_cons, Nat.zero_mul, Nat.zero_add, List.set_append, if_pos (by rw [K.len]; exact hj), hy]
    rfl
  | e :: r, i + 1, j, y, u, h, hj, hy => by
    rw [List.set_cons_succ, List.flatMap_cons, List.flatMap_cons, List.set_append, if_neg (by rw [K.len, Nat.add_mul]; omega)]
    have : (i + 1) * K.k + j - (K.cells e).length = i * K.k + j := by rw [K.len, Nat.add_mul]; omega
    rw [this, RowK.flat_set r i j y u (by simpa using h) hj (by simpa using hy)]
end

/-- a row of the call's own: elements of type E -/
def RowAt {α : Type} (K : RowK α) (E : TypeId) (w : World) (base : Nat) (v : Value) (l : List α) : Prop := w.ownsRow base E K.k v l.length (l.flatMap K.cells)
/-- block g is a row of cells of type E -/
def OfT (w : World) (g : Nat) (E : TypeId) : Prop := ∃ cs r, w.heap[g]? = some (.cells cs E r)
/-- a row that is read -/
structure RowIn {α : Type} (K : RowK α) (E : TypeId) (w : World) (ao : Option Addr) (l : List α) : Prop where
  cell : ∀ i, i < l.length → ∃ b off, ao = some ⟨b, off, none⟩ ∧ ∀ j, j < K.k → w.cell? ⟨b, off + i * K.k + j, none⟩ = (K.cells (l.getD i K.zero))[j]?
  typed : ∀ a, ao = some a → OfT w a.block E

section
variable {α : Type} {K : RowK α} {E : TypeId} {w w' : World} {base : Nat} {v : Value} {l : List α} {ao : Option Addr}
theorem OfT.lt {g : Nat} (h : OfT w g E) : g < w.heap.size := by obtain ⟨cs, r, h⟩ := h; exact lt_of_block h
theorem OfT.keeps {S : Nat → Prop} {g : Nat} (h : OfT w g E) (ho : Only S w w') (hs : ¬ S g) : OfT w' g E := by obtain ⟨cs, r, h⟩ := h; exact ⟨cs, r, ho.keeps hs h⟩
theorem OfT.ne_blk {g p : Nat} {cs : Array Value} {t : TypeId} (h : OfT w g E) (hb : Blk w p cs t) (ht : t ≠ E) : g ≠ p := by
  rintro rfl
  obtain ⟨c2, r, h⟩ := h
  unfold Blk at hb
  rw [hb] at h
  cases h
  exact ht rfl
theorem OfT.ne {F : TypeId} {g p : Nat} (h : OfT w g E) (hb : OfT w p F) (ht : F ≠ E) : g ≠ p := by
  rintro rfl
  obtain ⟨c2, r, h⟩ := h
  obtain ⟨c3, r3, h3⟩ := hb
  rw [h3] at h
  cases h
  exact ht rfl
theorem Blk.ofT {p : Nat} {cs : Array Value} {t : TypeId} (h : Blk w p cs t) : OfT w p t := ⟨_, _, h⟩
theorem RowIn.nil (w : World) : RowIn K E w none [] := ⟨fun i h => by simp at h, fun a h => by cases h⟩
theorem RowIn.keeps {S : Nat → Prop} (h : RowIn K E w ao l) (ho : Only S w w') (hs : ∀ a, ao = some a → ¬ S a.block) : RowIn K E w' ao l :=
  ⟨fun i hi => by
    obtain ⟨b, off, rfl, hc⟩ := h.cell i hi
    have hb : w'.heap[b]? = w.heap[b]? := ho.block b (h.typed _ rfl).lt (hs _ rfl)
    exact ⟨b, off, rfl, fun j hj => (World.cell?_of_block (a := ⟨b, off + i * K.k + j, none⟩) hb).trans (hc j hj)⟩, fun a ha => (h.typed a ha).keeps ho (hs a ha)⟩
/-- .. behind a call that writes blocks of other types alone -/
theorem RowIn.keepsT {S : Nat → Prop} (h : RowIn K E w ao l) (ho : Only S w w') (hs : ∀ k, S k → ¬ OfT w k E) : RowIn K E w' ao l := h.keeps ho (fun a ha hk => hs _ hk (h.typed a ha))
theorem RowIn.keepsN (h : RowIn K E w ao l) (ho : Only NoBlock w w') : RowIn K E w' ao l := h.keeps ho (fun _ _ h => h)
theorem RowIn.shape (h : RowIn K E w ao l) (hp : 0 < l.length) : ∃ b off, ao = some ⟨b, off, none⟩ := by obtain ⟨b, off, e, _⟩ := h.cell 0 hp; exact ⟨b, off, e⟩
theorem RowIn.at {b off : Nat} (h : RowIn K E w (some ⟨b, off, none⟩) l) {i : Nat} (hi : i < l.length) {j : Nat} (hj : j < K.k) : w.cell? ⟨b, off + i * K.k + j, none⟩ = (K.cells (l.getD i K.zero))[j]? := by
  obtain ⟨b', off', e, hc⟩ := h.cell i hi
  cases e
  exact hc j hj
theorem RowIn.flat {ad : Addr} (hm : RowIn K E w (some ad) l) : ∀ j u, (l.flatMap K.cells)[j]? = some u → w.cell? (ad.add j) = some u := by
  intro j u hj
  have hj' : j < l.length * K.k := by have := (List.getElem?_eq_some_iff.1 hj).1; rw [K.flat_length] at this; exact this
  have hk := K.pos
  have hi : j / K.k < l.length := (Nat.div_lt_iff_lt_mul hk).2 hj'
  obtain ⟨b, off, e, hc⟩ := hm.cell (j / K.k) hi
  cases e
  have hd : j = j / K.k * K.k + j % K.k := by rw [Nat.mul_comm]; exact (Nat.div_add_mod j K.k).symm
  have hr : j % K.k < K.k := Nat.mod_lt _ hk
  have := hc _ hr
  rw [Addr.add_lit]
  rw [Nat.add_assoc, ← hd] at this
  rw [this, ← K.flat_get l _ _ hi hr, ← hd]
  exact hj

theorem RowAt.nil (K : RowK α) (E : TypeId) (w : World) (base : Nat) : RowAt K E w base (.slice none 0 0) [] := World.ownsRow_nil _ _ _ _
theorem RowAt.keeps {S : Nat → Prop} (h : RowAt K E w base v l) (ho : Only S w w') (hs : ∀ k, v.ownBlock = some k → ¬ S k) : RowAt K E w' base v l := row_keeps h ho hs
theorem RowAt.keepsN (h : RowAt K E w base v l) (ho : Only NoBlock w w') : RowAt K E w' base v l := row_keeps h ho (fun _ _ h => h)
theorem RowAt.ofT (h : RowAt K E w base v l) {g : Nat} (hg : v.ownBlock = some g) : OfT w g E := by
  rcases h.2 with ⟨rfl, _⟩ | ⟨g', cap, cur, rfl, _, hb, _⟩
  · cases hg
  · cases hg; exact ⟨_, _, hb⟩
theorem RowAt.keepsT {S : Nat → Prop} (h : RowAt K E w base v l) (ho : Only S w w') (hs : ∀ k, S k → ¬ OfT w k E) : RowAt K E w' base v l := h.keeps ho (fun k hk hS => hs k hS (h.ofT hk))
theorem RowAt.shape (h : RowAt K E w base v l) : ∃ ao cap, v = .slice ao l.length cap := by
  rcases h.2 with ⟨h1, h0⟩ | ⟨g, cap, cur, rfl, _⟩
  · exact ⟨none, 0, by rw [h1, h0]⟩
  · exact ⟨_, cap, rfl⟩
theorem RowAt.shapeG (h : RowAt K E w base v l) (hp : 0 < l.length) : ∃ g cap, v = .slice (some ⟨g, 0, none⟩) l.length cap ∧ base ≤ g ∧ l.length ≤ cap ∧ cap ≤ maxLen ∧ g < w.heap.size := by
  rcases h.2 with ⟨_, h0⟩ | ⟨g, cap, cur, rfl, hb, hg, hn, hm, _⟩
  · omega
  · exact ⟨g, cap, rfl, hb, hn, hm, lt_of_block hg⟩
theorem RowAt.read (h : RowAt K E w base v l) : ∃ ao cap, v = .slice ao l.length cap ∧ RowIn K E w ao l := by
  rcases h.2 with ⟨h1, h0⟩ | ⟨g, cap, cur, rfl, hb, hg, hn, hm, hs, ht⟩
  · have : l = [] := List.length_eq_zero_iff.1 h0
    subst this
    exact ⟨none, 0, h1, RowIn.nil w⟩
  · refine ⟨_, cap, rfl, ⟨fun i hi => ⟨g, 0, rfl, fun j hj => ?_⟩, fun a ha => by cases ha; exact ⟨_, _, hg⟩⟩⟩
    rw [← K.flat_get l i j hi hj, Nat.zero_add]
    have hlt := K.place_lt hi hj
    exact World.ownsRow.cellAt h (i * K.k + j) hlt
theorem RowAt.cell {g cap n : Nat} (h : RowAt K E w base (.slice (some ⟨g, 0, none⟩) n cap) l) (hn : n = l.length) {i : Nat} (hi : i < l.length) {j : Nat} (hj : j < K.k) : w.cell? ⟨g, i * K.k + j, none⟩ = (K.cells (l.getD i K.zero))[j]? := by
  subst hn
  rw [← K.flat_get l i j hi hj]
  have hlt := K.place_lt hi hj
  exact World.ownsRow.cellAt h (i * K.k + j) hlt
theorem RowAt.free {g cap n : Nat} (h : RowAt K E w base (.slice (some ⟨g, 0, none⟩) n cap) l) (hn : n = l.length) (j : Nat) : w.frozen? ⟨g, j, none⟩ = false := by
  subst hn
  exact World.ownsRow.frozenAt h j
/-- a cell of an element is written -/
theorem RowAt.write {g cap n : Nat} (h : RowAt K E w base (.slice (some ⟨g, 0, none⟩) n cap) l) (hn : n = l.length) {i : Nat} (hi : i < l.length) {j : Nat} (hj : j < K.k) (y : α) (u : Value) (hy : K.cells y = (K.cells (l.getD i K.zero)).set j u) :
    RowAt K E (w.setCell ⟨g, i * K.k + j, none⟩ u) base (.slice (some ⟨g, 0, none⟩) n cap) (l.set i y) := by
  subst hn
  have := World.ownsRow.stored h (i * K.k + j) u
  unfold RowAt
  rw [List.length_set, K.flat_set l i j y u hi hj hy]
  exact this.1
theorem RowAt.lower {b' : Nat} (h : RowAt K E w base v l) (hb : b' ≤ base) : RowAt K E w b' v l := by
  refine ⟨h.1, ?_⟩
  rcases h.2 with h0 | ⟨g, cap, cur, h1, h2, h3⟩
  · exact .inl h0
  · exact .inr ⟨g, cap, cur, h1, Nat.le_trans hb h2, h3⟩
theorem RowAt.higher {b' : Nat} (h : RowAt K E w base v l) (hb : ∀ k, v.ownBlock = some k → b' ≤ k) : RowAt K E w b' v l := by
  refine ⟨h.1, ?_⟩
  rcases h.2 with h0 | ⟨g, cap, cur, rfl, h2, h3⟩
  · exact .inl h0
  · exact .inr ⟨g, cap, cur, rfl, hb g rfl, h3⟩
end

theorem append_nothing0 {P : Program} {w : World} (base : Nat) (t ty e : TypeId) (i : TypeInfo) (size : Nat) (ht : P.underlying t = some (.slice e)) (hi : P.info? e = some i)
    (v : Value) (n : Nat) (xs : List Value) (hown : w.ownsRow base e size v n xs) (c : Nat) : (Builtin.append_ #[t, t] ty #[v, .slice none 0 c]).run P w = .ok v w := by
  rcases hown.2 with ⟨rfl, rfl⟩ | ⟨g, cap, cur, rfl, _, _, hnc, _⟩
  · simp [Builtin.append_, run_underlying ht, sizeOf, typeInfo, hi, Builtin.lenOf, Builtin.firstCells]
  · simp [Builtin.append_, run_underlying ht, sizeOf, typeInfo, hi, Builtin.lenOf, Builtin.firstCells, hnc, storeCells]

section
variable {P : Program} {α : Type} {K : RowK α} {E T : TypeId} {z : Value} {bytes : Nat}
/-- what the type's table says of a kind -/
structure RowT (P : Program) (K : RowK α) (E T : TypeId) (z : Value) (bytes : Nat) : Prop where
  u : P.underlying T = some (.slice E)
  info : (P.info? E).map (fun i => (i.zero, i.size, i.bytes)) = some (some z, K.k, bytes)
  zs : z.cells.size = K.k
  few : bytes ≤ 1000
theorem run_append_row (X : RowT P K E T z bytes) (w : World) (ty : TypeId) (base : Nat) (v : Value) (l m : List α) (ad : Addr) (n : Nat) (hown : RowAt K E w base v l) (hm : ∀ j u, (m.flatMap K.cells)[j]? = some u → w.cell? (ad.add j) = some u)
    (hlen : l.length + m.length ≤ 140737488355) (hbase : base ≤ w.heap.size) :
    ∃ v' w', (Builtin.append_ #[T, T] ty #[v, .slice (some ad) m.length n]).run P w = .ok v' w' ∧ RowAt K E w' base v' (l ++ m) ∧ w.grownBy w' v.ownBlock ∧ (v'.ownBlock = v.ownBlock ∨ v'.ownBlock = some w.heap.size) := by
  obtain ⟨i, hi, hz, hsz, hby⟩ := info_parts X.info
  have hb : (l.length + m.length) * bytes ≤ 140737488355328 := Nat.le_trans (Nat.mul_le_mul hlen X.few) (by decide)
  obtain ⟨v', w', hr, h2, h3, _, h5⟩ := run_append_own_at (P := P) w base T ty E i z K.k bytes X.u hi hz hsz hby X.zs K.pos v l.length _ hown ad m.length n (m.flatMap K.cells) (K.flat_length m) hm (K.flat_one m) (by unfold maxLen; omega) hb hbase
  refine ⟨v', w', hr, ?_, h3, h5⟩
  unfold RowAt
  rw [List.flatMap_append, List.length_append]
  exact h2
theorem flat_one_cells (K : RowK α) (w : World) (b : Nat) (x : α) (hc : ∀ j, j < K.k → w.cell? ⟨b, j, none⟩ = (K.cells x)[j]?) : ∀ j u, ([x].flatMap K.cells)[j]? = some u → w.cell? ((⟨b, 0, none⟩ : Addr).add j) = some u := by
  intro j u hj
  rw [List.flatMap_cons, List.flatMap_nil, List.append_nil] at hj
  have hlt : j < K.k := by have := (List.getElem?_eq_some_iff.1 hj).1; rwa [K.len] at this
  rw [Addr.add_lit, Nat.zero_add, hc j hlt]
  exact hj
/-- the new block of one element -/
theorem made_cells (K : RowK α) (w : World) (E : TypeId) (b : Nat) (hb : b = w.heap.size) (cs : Array Value) (x : α) (hx : cs.toList = K.cells x) : ∀ j, j < K.k → (w.alloc (.cells cs E)).cell? ⟨b, j, none⟩ = (K.cells x)[j]? := by
  intro j _
  subst hb
  rw [(Blk.made w cs E).cell, ← hx]
  simp
theorem made_cells_drew (K : RowK α) (w : World) (E : TypeId) (b : Nat) (hb : b = w.heap.size) (cs : Array Value) (x : α) (hx : cs.toList = K.cells x) : ∀ j, j < K.k → (w.alloc (.cells cs E)).drew.cell? ⟨b, j, none⟩ = (K.cells x)[j]? := made_cells K w E b hb cs x hx

variable {ops : Array Oper} {rest : List Oper} {o : Oper} {a : Act} {Q : Exit → Act → World → Prop}
/-- 'append(xs, x)' -/
theorem wpList_append_row1 (X : RowT P K E T z bytes) (w : World) (hgd : o.guard = none) (s y : Operand) (ho : o.op = .call { callee := .builtin .append, args := #[s, y], argTypes := #[T, T] })
    (base : Nat) (v : Value) (l : List α) (x : α) (b n : Nat) (hs : a.eval s = v) (hown : RowAt K E w base v l) (hx : a.eval y = .slice (some ⟨b, 0, none⟩) 1 n)
    (hc : ∀ j, j < K.k → w.cell? ⟨b, j, none⟩ = (K.cells x)[j]?) (hlen : l.length + 1 ≤ 140737488355) (hbase : base ≤ w.heap.size)
    (h : ∀ v' w', RowAt K E w' base v' (l ++ [x]) → w.grownBy w' v.ownBlock → (v'.ownBlock = v.ownBlock ∨ v'.ownBlock = some w.heap.size) → wpList P ops Q rest (a.put o.dst v') w') : wpList P ops Q (o :: rest) a w := by
  refine wpList_plain hgd fun K' hK => ?_
  unfold Oper.wp execOp
  simp only [ho, resolve, invoke, builtin, Sem.run_bind, Sem.run_pure, Result.andThen_ok, List.map_toArray, List.map_cons, List.map_nil, hs, hx]
  obtain ⟨v', w', hr, h2, h3, h5⟩ := run_append_row X w o.type base v l [x] ⟨b, 0, none⟩ n hown (flat_one_cells K w b x hc) (by simpa using hlen) hbase
  rw [show (1 : Nat) = [x].length from rfl, hr]
  exact hK _ _ (h v' w' h2 h3 h5)
/-- 'append(xs, ys...)' -/
theorem wpList_append_rows (X : RowT P K E T z bytes) (w : World) (hgd : o.guard = none) (s y : Operand) (ho : o.op = .call { callee := .builtin .append, args := #[s, y], argTypes := #[T, T] })
    (base : Nat) (v : Value) (l m : List α) (ao : Option Addr) (k n : Nat) (hs : a.eval s = v) (hown : RowAt K E w base v l) (hx : a.eval y = .slice ao k n) (hk : k = m.length) (hm : RowIn K E w ao m)
    (hlen : l.length + m.length ≤ 140737488355) (hbase : base ≤ w.heap.size)
    (h : ∀ v' w', RowAt K E w' base v' (l ++ m) → w.grownBy w' v.ownBlock → (v'.ownBlock = v.ownBlock ∨ v'.ownBlock = some w.heap.size) → wpList P ops Q rest (a.put o.dst v') w') : wpList P ops Q (o :: rest) a w := by
  subst hk
  refine wpList_plain hgd fun K' hK => ?_
  unfold Oper.wp execOp
  simp only [ho, resolve, invoke, builtin, Sem.run_bind, Sem.run_pure, Result.andThen_ok, List.map_toArray, List.map_cons, List.map_nil, hs, hx]
  cases ao with
  | none =>
    have hm0 : m = [] := by
      cases m with
      | nil => rfl
      | cons y r => obtain ⟨b, off, e, _⟩ := hm.cell 0 (by simp); cases e
    subst hm0
    obtain ⟨i, hi, hz, hsz, hby⟩ := info_parts X.info
    rw [show ([] : List α).length = 0 from rfl, append_nothing0 base T o.type E i K.k X.u hi v l.length _ hown n]
    exact hK _ _ (h v w (by rw [List.append_nil]; exact hown) ⟨rfl, rfl, rfl, Nat.le_refl _, fun _ _ _ => rfl⟩ (.inl rfl))
  | some ad =>
    obtain ⟨v', w', hr, h2, h3, h5⟩ := run_append_row X w o.type base v l m ad n hown hm.flat hlen hbase
    rw [hr]
    exact hK _ _ (h v' w' h2 h3 h5)
/-- 'append(xs, x)', as one step of a region that draws -/
theorem step_append_row1 {R : Act → World → Prop} {G : Prop} (X : RowT P K E T z bytes) (w : World) (hgd : o.guard = none) (s y : Operand) (ho : o.op = .call { callee := .builtin .append, args := #[s, y], argTypes := #[T, T] })
    (base : Nat) (v : Value) (l : List α) (x : α) (b n : Nat) (hs : a.eval s = v) (hown : RowAt K E w base v l) (hx : a.eval y = .slice (some ⟨b, 0, none⟩) 1 n)
    (hc : ∀ j, j < K.k → w.cell? ⟨b, j, none⟩ = (K.cells x)[j]?) (hlen : l.length + 1 ≤ 140737488355) (hbase : base ≤ w.heap.size)
    (h : ∀ v' w', RowAt K E w' base v' (l ++ [x]) → w.grownBy w' v.ownBlock → (v'.ownBlock = v.ownBlock ∨ v'.ownBlock = some w.heap.size) → R (a.put o.dst v') w') : if Region.wanted o (yielded ops a.tmps) = true then Oper.wp P o a w R Q else G := by
  have hw : Region.wanted o (yielded ops a.tmps) = true := by simp [Region.wanted, hgd]
  rw [if_pos hw]
  unfold Oper.wp execOp
  simp only [ho, resolve, invoke, builtin, Sem.run_bind, Sem.run_pure, Result.andThen_ok, List.map_toArray, List.map_cons, List.map_nil, hs, hx]
  obtain ⟨v', w', hr, h2, h3, h5⟩ := run_append_row X w o.type base v l [x] ⟨b, 0, none⟩ n hown (flat_one_cells K w b x hc) (by simpa using hlen) hbase
  rw [show (1 : Nat) = [x].length from rfl, hr]
  exact h v' w' h2 h3 h5
end
end Go.Proofs.Ytogeeeigfhmpmaa
