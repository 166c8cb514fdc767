/- What the statements of this seat lean on, part B: what the program's and the document's functions compute, in plain data. -/
import Derived.Test.YtekmjhenhgmpgaaMA
import Derived.Maps.AppendAt
import Derived.Deep.RegionLaw
import Derived.Lib.AppendStr
import Derived.Deep.RegionHeld3
import Derived.Laws.BitsLemmas
import Derived.IntWalk

/- Numbers and texts as bytes, in plain lists: writing, reading, and that what is written is read back. -/
namespace Go.Proofs.Ytekmjhenhgmpgaa.Pk
open Go.RowKit

/-- how many bytes a number needs -/
def size (x : Nat) : Nat := if h : x = 0 then 0 else size (x / 256) + 1
termination_by x
decreasing_by omega
theorem size_zero : size 0 = 0 := by unfold size; simp
theorem size_pos {x : Nat} (h : 0 < x) : size x = size (x / 256) + 1 := by conv => lhs; unfold size; rw [dif_neg (by omega)]
/-- n bytes of a number, the highest first -/
def be : Nat → Nat → List Int
  | 0, _ => []
  | n + 1, x => be n (x / 256) ++ [((x % 256 : Nat) : Int)]
theorem be_length : ∀ n x, (be n x).length = n
  | 0, _ => rfl
  | n + 1, x => by unfold be; rw [List.length_append, be_length n]; rfl
def num (x : Nat) : List Int := (size x : Int) :: be (size x) x
def text (s : List Int) : List Int := num s.length ++ s

theorem size_lt {x : Nat} : ∀ n, x < 256 ^ n → size x ≤ n
  | 0, h => by have : x = 0 := by simpa using h
               rw [this, size_zero]; omega
  | n + 1, h => by
    rcases Nat.eq_zero_or_pos x with h0 | h0
    · rw [h0, size_zero]; omega
    · rw [size_pos h0]
      have := size_lt (x := x / 256) n (by rw [Nat.pow_succ] at h; omega)
      omega
theorem size_le8 {x : Nat} (h : x < 18446744073709551616) : size x ≤ 8 := size_lt 8 (by simpa using h)
theorem lt_size (x : Nat) : x < 256 ^ size x := by
  induction x using Nat.strongRecOn with
  | ind x ih =>
    rcases Nat.eq_zero_or_pos x with h0 | h0
    · subst h0; rw [size_zero]; decide
    · rw [size_pos h0, Nat.pow_succ]
      have := ih (x / 256) (by omega)
      omega
theorem num_length (x : Nat) : (num x).length = size x + 1 := by unfold num; rw [List.length_cons, be_length]
theorem be_byte : ∀ n x, ∀ c ∈ be n x, 0 ≤ c ∧ c ≤ 255
  | 0, _, c, h => by cases h
  | n + 1, x, c, h => by
    unfold be at h
    rcases List.mem_append.1 h with h | h
    · exact be_byte n _ c h
    · simp at h; subst h; omega
theorem num_byte {x : Nat} (h : x < 18446744073709551616) : ∀ c ∈ num x, 0 ≤ c ∧ c ≤ 255 := by
  intro c hc
  unfold num at hc
  rcases List.mem_cons.1 hc with h1 | h1
  · have := size_le8 h; omega
  · exact be_byte _ _ c h1
/-- the byte at place i -/
theorem be_snoc_high (n x : Nat) : be (n + 1) x = ((x / 256 ^ n % 256 : Nat) : Int) :: be n x := by
  induction n generalizing x with
  | zero => simp [be]
  | succ n ih =>
    conv => lhs; unfold be
    rw [ih]
    conv => rhs; rhs; unfold be
    rw [Nat.pow_succ, Nat.div_div_eq_div_mul, Nat.mul_comm 256]
    rfl

theorem be_getD : ∀ (n x j : Nat), j < n → (be n x).getD j 0 = ((x / 256 ^ (n - 1 - j) % 256 : Nat) : Int)
  | 0, _, _, h => by omega
  | n + 1, x, 0, _ => by rw [be_snoc_high, List.getD_cons_zero]; rfl
  | n + 1, x, j + 1, h => by
    rw [be_snoc_high, List.getD_cons_succ, be_getD n x j (by omega)]
    have : n + 1 - 1 - (j + 1) = n - 1 - j := by omega
    rw [this]
theorem be_take {n x j : Nat} (h : j < n) : (be n x).take (j + 1) = (be n x).take j ++ [((x / 256 ^ (n - 1 - j) % 256 : Nat) : Int)] := by
  have hl := be_length n x
  rw [List.take_add_one, List.getElem?_eq_getElem (by omega)]
  have := be_getD n x j h
  rw [List.getD_eq_getElem?_getD, List.getElem?_eq_getElem (by omega), Option.getD_some] at this
  rw [this]; rfl
/-- what bytes say, the highest first -/
def val (l : List Int) : Nat := l.foldl (fun x c => 256 * x + c.toNat) 0
theorem val_nil : val [] = 0 := rfl
theorem val_snoc (l : List Int) (c : Int) : val (l ++ [c]) = 256 * val l + c.toNat := by unfold val; rw [List.foldl_append]; rfl
theorem val_be : ∀ n x, x < 256 ^ n → val (be n x) = x
  | 0, x, h => by have : x = 0 := by simpa using h
                  rw [this]; rfl
  | n + 1, x, h => by
    unfold be
    rw [val_snoc, val_be n (x / 256) (by rw [Nat.pow_succ] at h; omega)]
    omega
theorem foldl_lt : ∀ (l : List Int) (a : Nat), (∀ c ∈ l, 0 ≤ c ∧ c ≤ 255) → l.foldl (fun x c => 256 * x + c.toNat) a < (a + 1) * 256 ^ l.length
  | [], a, _ => by simp
  | c :: t, a, h => by
    rw [List.foldl_cons, List.length_cons, Nat.pow_succ]
    have h1 := foldl_lt t (256 * a + c.toNat) (fun x hx => h x (by simp [hx]))
    have h2 := h c (by simp)
    have h3 : (256 * a + c.toNat + 1) * 256 ^ t.length ≤ (256 * (a + 1)) * 256 ^ t.length := Nat.mul_le_mul_right _ (by omega)
    have h4 : (256 * (a + 1)) * 256 ^ t.length = (a + 1) * (256 ^ t.length * 256) := by rw [Nat.mul_comm 256 (a + 1), Nat.mul_assoc, Nat.mul_comm 256]
    omega
theorem val_lt (l : List Int) (h : ∀ c ∈ l, 0 ≤ c ∧ c ≤ 255) : val l < 256 ^ l.length := by
  have := foldl_lt l 0 h
  unfold val
  omega

/-- a reader: what is left, and whether it failed -/
structure RD where
  s : List Int
  bad : Bool
def RD.fail (_ : RD) : RD := ⟨[], true⟩
/-- may a number be read? -/
def okNum (s : List Int) : Bool := match s with
  | [] => false
  | n :: t => !(decide (8 < n) || decide ((t.length : Int) < n) || (decide (0 < n) && decide (t.getD 0 0 = 0)))
def numV (s : List Int) : Nat := if okNum s = true then val ((s.drop 1).take (s.getD 0 0).toNat) else 0
def numR (r : RD) : RD := if okNum r.s = true then ⟨r.s.drop ((r.s.getD 0 0).toNat + 1), r.bad⟩ else ⟨[], true⟩
def RD.num (r : RD) : Nat × RD := (numV r.s, numR r)
def RD.up (r : RD) (limit : Nat) : Nat × RD := if numV r.s ≤ limit then (numV r.s, numR r) else (0, ⟨[], true⟩)
def RD.text (r : RD) (limit : Nat) : List Int × RD :=
  let u := r.up limit
  if u.1 ≤ u.2.s.length then (u.2.s.take u.1, ⟨u.2.s.drop u.1, u.2.bad⟩) else ([], ⟨[], true⟩)
def RD.done (r : RD) : Bool := r.s.isEmpty && !r.bad

theorem okNum_num {x : Nat} (h : x < 18446744073709551616) (t : List Int) : okNum (num x ++ t) = true := by
  have h8 := size_le8 h
  unfold num okNum
  rw [List.cons_append]
  simp only [Bool.not_eq_true', Bool.or_eq_false_iff, Bool.and_eq_false_iff, decide_eq_false_iff_not]
  refine ⟨⟨by omega, by rw [List.length_append, be_length]; omega⟩, ?_⟩
  rcases Nat.eq_zero_or_pos x with h0 | h0
  · left; rw [h0, size_zero]; omega
  · right
    obtain ⟨n, hn⟩ : ∃ n, size x = n + 1 := ⟨size x - 1, by have := size_pos h0; omega⟩
    rw [hn, be_snoc_high, List.cons_append, List.getD_cons_zero]
    have h1 := lt_size x
    rw [hn, Nat.pow_succ] at h1
    have h2 : 256 ^ n ≤ x := by
      rcases Nat.lt_or_ge x (256 ^ n) with h3 | h3
      · have := size_lt n h3; omega
      · exact h3
    have hp : 0 < 256 ^ n := Nat.pow_pos (by decide)
    have h3 : 1 ≤ x / 256 ^ n := (Nat.le_div_iff_mul_le hp).2 (by omega)
    have h4 : x / 256 ^ n < 256 := (Nat.div_lt_iff_lt_mul hp).2 (by rw [Nat.mul_comm]; exact h1)
    rw [Nat.mod_eq_of_lt h4]
    omega
/-- a number is read back -/
theorem num_back {x : Nat} (h : x < 18446744073709551616) (t : List Int) (b : Bool) : (RD.mk (num x ++ t) b).num = (x, ⟨t, b⟩) := by
  unfold RD.num numV numR
  have ho := okNum_num h t
  simp only
  rw [if_pos ho, if_pos ho]
  unfold num
  rw [List.cons_append, List.getD_cons_zero, Int.toNat_natCast, List.drop_one, List.tail_cons]
  have e1 : (be (size x) x ++ t).take (size x) = be (size x) x := List.take_left' (be_length _ _)
  have e2 : (be (size x) x ++ t).drop (size x) = t := List.drop_left' (be_length _ _)
  rw [e1, val_be _ _ (lt_size x), List.drop_succ_cons, e2]
theorem up_back {x limit : Nat} (h : x ≤ limit) (hl : limit < 18446744073709551616) (t : List Int) (b : Bool) : (RD.mk (num x ++ t) b).up limit = (x, ⟨t, b⟩) := by
  have := num_back (x := x) (by omega) t b
  unfold RD.num at this
  simp only [Prod.mk.injEq] at this
  unfold RD.up
  simp only
  rw [this.1, this.2, if_pos h]
theorem text_back {s : List Int} {limit : Nat} (h : s.length ≤ limit) (hl : limit < 18446744073709551616) (t : List Int) (b : Bool) : (RD.mk (text s ++ t) b).text limit = (s, ⟨t, b⟩) := by
  unfold RD.text text
  rw [List.append_assoc, up_back h hl]
  simp only
  rw [if_pos (by rw [List.length_append]; omega), List.take_left, List.drop_left]
theorem numR_le (r : RD) : (numR r).s.length ≤ r.s.length := by
  unfold numR
  split
  · rw [List.length_drop]; omega
  · exact Nat.zero_le _
theorem okNum_len {s : List Int} (h : okNum s = true) : (s.getD 0 0).toNat + 1 ≤ s.length ∧ (s.getD 0 0).toNat ≤ 8 := by
  cases s with
  | nil => simp [okNum] at h
  | cons n t =>
    unfold okNum at h
    simp only [Bool.not_eq_true', Bool.or_eq_false_iff, Bool.and_eq_false_iff, decide_eq_false_iff_not] at h
    obtain ⟨⟨h1, h2⟩, _⟩ := h
    rw [List.getD_cons_zero, List.length_cons]
    omega
theorem numV_lt {s : List Int} (h : ∀ c ∈ s, 0 ≤ c ∧ c ≤ 255) : numV s < 18446744073709551616 := by
  unfold numV
  split
  next ho =>
    have hl := okNum_len ho
    have h1 := val_lt ((s.drop 1).take (s.getD 0 0).toNat) (fun c hc => h c (List.mem_of_mem_drop (List.mem_of_mem_take hc)))
    refine Nat.lt_of_lt_of_le h1 ?_
    have h8 : ((s.drop 1).take (s.getD 0 0).toNat).length ≤ 8 := by rw [List.length_take]; omega
    have := Nat.pow_le_pow_right (n := 256) (by decide) h8
    have e8 : 256 ^ 8 = 18446744073709551616 := by decide
    omega
  · omega
theorem numR_byte {r : RD} (h : ∀ c ∈ r.s, 0 ≤ c ∧ c ≤ 255) : ∀ c ∈ (numR r).s, 0 ≤ c ∧ c ≤ 255 := by
  unfold numR
  split
  · exact fun c hc => h c (List.mem_of_mem_drop hc)
  · intro c hc; cases hc
end Go.Proofs.Ytekmjhenhgmpgaa.Pk

/- Entries of a log: rows of entries that are read, and rows of the call's own. -/
namespace Go.Proofs.Ytekmjhenhgmpgaa
open Go.RowKit
set_option maxRecDepth 100000

/-- an entry, in plain data -/
structure Ent where
  term : Nat
  index : Nat
  kind : Int
  data : ByteArray
instance : Inhabited Ent := ⟨⟨0, 0, 0, ByteArray.empty⟩⟩
def Ent.zero : Ent := ⟨0, 0, 0, ByteArray.empty⟩
def Ent.cells (e : Ent) : List Value := [.int .u64 e.term, .int .u64 e.index, .int .i64 e.kind, .string e.data]
def Ent.val (e : Ent) : Value := .agg #[.int .u64 e.term, .int .u64 e.index, .int .i64 e.kind, .string e.data]
/-- an entry that can lie in memory -/
structure Ent.Wf (e : Ent) : Prop where
  term : e.term < 18446744073709551616
  index : e.index < 18446744073709551616
  kind : (Lit.int .i64 e.kind).wf = true
  data : e.data.size ≤ 140737488351232
theorem Ent.zero_wf : Ent.zero.Wf := ⟨by decide, by decide, by decide, by decide⟩

/-- a row of entries that is read -/
structure EntsIn (w : World) (ao : Option Addr) (l : List Ent) : Prop where
  wf : ∀ e ∈ l, e.Wf
  len : l.length ≤ 2305843009213693951
  cell : ∀ i, i < l.length → ∃ b off, ao = some ⟨b, off, none⟩ ∧
    w.cell? ⟨b, off + i * 4, none⟩ = some (.int .u64 (l.getD i Ent.zero).term) ∧ w.cell? ⟨b, off + i * 4 + 1, none⟩ = some (.int .u64 (l.getD i Ent.zero).index) ∧
    w.cell? ⟨b, off + i * 4 + 2, none⟩ = some (.int .i64 (l.getD i Ent.zero).kind) ∧ w.cell? ⟨b, off + i * 4 + 3, none⟩ = some (.string (l.getD i Ent.zero).data)
section
variable {w w' : World} {ao : Option Addr} {l : List Ent}
theorem EntsIn.keeps {S : Nat → Prop} (h : EntsIn w ao l) (ho : Only S w w') (hs : ∀ a, ao = some a → ¬ S a.block) : EntsIn w' ao l :=
  ⟨h.wf, h.len, fun i hi => by
    obtain ⟨b, off, e, h0, h1, h2, h3⟩ := h.cell i hi
    have hlt : b < w.heap.size := World.block_lt_of_cell? w _ h0
    have hb := ho.block b hlt (hs ⟨b, off, none⟩ e)
    have hc : ∀ k, w'.cell? ⟨b, k, none⟩ = w.cell? ⟨b, k, none⟩ := fun k => by simp [World.cell?, hb]
    exact ⟨b, off, e, by rw [hc, h0], by rw [hc, h1], by rw [hc, h2], by rw [hc, h3]⟩⟩
theorem EntsIn.nil (w : World) (ao : Option Addr) : EntsIn w ao [] := ⟨by simp, by simp, fun i hi => by simp at hi⟩
theorem EntsIn.take (h : EntsIn w ao l) (n : Nat) : EntsIn w ao (l.take n) :=
  ⟨fun e he => h.wf e (List.mem_of_mem_take he), by rw [List.length_take]; have := h.len; omega, fun i hi => by
    rw [List.length_take] at hi
    obtain ⟨b, off, e, hc⟩ := h.cell i (by omega)
    refine ⟨b, off, e, ?_⟩
    have : (l.take n).getD i Ent.zero = l.getD i Ent.zero := by rw [List.getD_eq_getElem?_getD, List.getD_eq_getElem?_getD, List.getElem?_take, if_pos (by omega)]
    rw [this]
    exact hc⟩
theorem EntsIn.at_wf (h : EntsIn w ao l) {i : Nat} (hi : i < l.length) : (l.getD i Ent.zero).Wf := by
  rw [List.getD_eq_getElem?_getD, List.getElem?_eq_getElem hi]
  exact h.wf _ (List.getElem_mem hi)
end

namespace En
theorem u_ents : Try.prog.underlying 40 = some (.slice 77) := by kernel_rfl
theorem info : (Try.prog.info? 77).map (fun i => (i.zero, i.size, i.bytes)) = some (some (.agg #[.int .u64 0, .int .u64 0, .int .i64 0, .string ByteArray.empty]), 4, 40) := by kernel_rfl
end En

/-- a row of entries of the call's own -/
def Ents (w : World) (base : Nat) (v : Value) (l : List Ent) : Prop := w.ownsRow base 77 4 v l.length (l.flatMap Ent.cells) ∧ ∀ e ∈ l, e.Wf

theorem flat_length (l : List Ent) : (l.flatMap Ent.cells).length = l.length * 4 := by
  induction l with
  | nil => rfl
  | cons e r ih => rw [List.flatMap_cons, List.length_append, ih, List.length_cons]; show 4 + _ = _; omega
theorem flat_get : ∀ (l : List Ent) (i j : Nat), i < l.length → j < 4 → (l.flatMap Ent.cells)[i * 4 + j]? = (l.getD i Ent.zero).cells[j]?
  | [], _, _, h, _ => by simp at h
  | e :: r, 0, j, _, hj => by
    rw [List.flatMap_cons, Nat.zero_mul, Nat.zero_add, List.getElem?_append_left (by show j < 4; exact hj)]
    rfl
  | e :: r, i + 1, j, h, hj => by
    rw [List.flatMap_cons, List.getElem?_append_right (by show 4 ≤ _; omega)]
    have : (i + 1) * 4 + j - e.cells.length = i * 4 + j := by show (i + 1) * 4 + j - 4 = _; omega
    rw [this, flat_get r i j (by simpa using h) hj, List.getD_cons_succ]

section
variable {w w' : World} {base : Nat} {v : Value} {l : List Ent}
theorem Ents.keeps {S : Nat → Prop} (h : Ents w base v l) (ho : Only S w w') (hs : ∀ k, v.ownBlock = some k → ¬ S k) : Ents w' base v l := ⟨row_keeps h.1 ho hs, h.2⟩
theorem Ents.nil (w : World) (base : Nat) : Ents w base (.slice none 0 0) [] := ⟨World.ownsRow_nil _ _ _ _, by simp⟩
theorem Ents.shape (h : Ents w base v l) : ∃ ao cap, v = .slice ao l.length cap := by
  rcases h.1.2 with ⟨h1, h0⟩ | ⟨g, cap, cur, rfl, _⟩
  · exact ⟨none, 0, by rw [h1, h0]⟩
  · exact ⟨_, cap, rfl⟩
theorem Ents.lower {b' : Nat} (h : Ents w base v l) (hb : b' ≤ base) : Ents w b' v l := by
  refine ⟨⟨h.1.1, ?_⟩, h.2⟩
  rcases h.1.2 with h0 | ⟨g, cap, cur, h1, h2, h3⟩
  · exact .inl h0
  · exact .inr ⟨g, cap, cur, h1, Nat.le_trans hb h2, h3⟩
theorem Ents.read {ao : Option Addr} {cap : Nat} (h : Ents w base (.slice ao l.length cap) l) (hl : l.length ≤ 2305843009213693951) : EntsIn w ao l ∧ l.length ≤ cap ∧ cap ≤ maxLen := by
  rcases h.1.2 with ⟨h1, h0⟩ | ⟨g, cap', cur, h1, hb, hg, hn, hm, hsz, ht⟩
  · simp only [Value.slice.injEq] at h1
    have : l = [] := List.length_eq_zero_iff.1 h0
    subst this
    exact ⟨EntsIn.nil _ _, by omega, by rw [h1.2.2]; unfold maxLen; omega⟩
  · simp only [Value.slice.injEq] at h1
    obtain ⟨rfl, _, rfl⟩ := h1
    refine ⟨⟨h.2, hl, fun i hi => ⟨g, 0, rfl, ?_⟩⟩, hn, hm⟩
    have hc : ∀ j, j < 4 → w.cell? ⟨g, i * 4 + j, none⟩ = (l.getD i Ent.zero).cells[j]? := fun j hj => by
      rw [← flat_get l i j hi hj]
      exact World.ownsRow.cellAt h.1 (i * 4 + j) (by omega)
    simp only [Nat.zero_add]
    exact ⟨hc 0 (by decide), hc 1 (by decide), hc 2 (by decide), hc 3 (by decide)⟩
theorem Ents.apart {p : Nat} {cs : Array Value} {t : TypeId} (h : Ents w base v l) (hb : Blk w p cs t) (ht : t ≠ 77) : v.ownBlock ≠ some p := by
  rcases h.1.2 with ⟨rfl, h0⟩ | ⟨g, cap, cur, rfl, _, hg, _⟩
  · simp [Value.ownBlock]
  · intro e
    have e' : g = p := by simpa [Value.ownBlock] using e
    subst e'
    unfold Blk at hb
    rw [hb] at hg
    cases hg
    exact ht rfl
end

section
variable {ops : Array Oper} {rest : List Oper} {o : Oper} {a : Act} {Q : Exit → Act → World → Prop}
theorem run_append_ent (w : World) (ty : TypeId) (base : Nat) (v : Value) (l : List Ent) (e : Ent) (he : e.Wf) (b : Nat) (n : Nat) (hown : Ents w base v l)
    (c0 : w.cell? ⟨b, 0, none⟩ = some (.int .u64 e.term)) (c1 : w.cell? ⟨b, 1, none⟩ = some (.int .u64 e.index)) (c2 : w.cell? ⟨b, 2, none⟩ = some (.int .i64 e.kind)) (c3 : w.cell? ⟨b, 3, none⟩ = some (.string e.data))
    (hlen : l.length + 1 ≤ 3518437208883) (hbase : base ≤ w.heap.size) :
    ∃ v' w', (Builtin.append_ #[40, 40] ty #[v, .slice (some ⟨b, 0, none⟩) 1 n]).run Try.prog w = .ok v' w' ∧ Ents w' base v' (l ++ [e]) ∧ w.grownBy w' v.ownBlock ∧ (v'.ownBlock = v.ownBlock ∨ v'.ownBlock = some w.heap.size) := by
  obtain ⟨i, hi, hz, hsz, hby⟩ := info_parts En.info
  obtain ⟨v', w', hr, h2, h3, _, h5⟩ := run_append_own_at (P := Try.prog) w base 40 ty 77 i _ 4 40 En.u_ents hi hz hsz hby rfl (by decide) v l.length _ hown.1 ⟨b, 0, none⟩ 1 n e.cells (by rfl) (by
    intro j u hj
    rw [Addr.add_lit, Nat.zero_add]
    match j, hj with
    | 0, hj => cases hj; exact c0
    | 1, hj => cases hj; exact c1
    | 2, hj => cases hj; exact c2
    | 3, hj => cases hj; exact c3
    | j + 4, hj => cases hj) (by intro u hu; simp [Ent.cells] at hu; rcases hu with rfl | rfl | rfl | rfl <;> rfl) (by unfold maxLen; omega) (by omega) hbase
  refine ⟨v', w', hr, ⟨?_, ?_⟩, h3, h5⟩
  · rw [List.flatMap_append, List.length_append]
    simpa using h2
  · intro x hx
    rcases List.mem_append.1 hx with hx | hx
    · exact hown.2 x hx
    · simp at hx; subst hx; exact he
theorem wpList_append_ent (w : World) (hgd : o.guard = none) (s x : Operand) (ho : o.op = .call { callee := .builtin .append, args := #[s, x], argTypes := #[40, 40] })
    (base : Nat) (v : Value) (l : List Ent) (e : Ent) (he : e.Wf) (b : Nat) (n : Nat) (hs : a.eval s = v) (hown : Ents w base v l) (hx : a.eval x = .slice (some ⟨b, 0, none⟩) 1 n)
    (c0 : w.cell? ⟨b, 0, none⟩ = some (.int .u64 e.term)) (c1 : w.cell? ⟨b, 1, none⟩ = some (.int .u64 e.index)) (c2 : w.cell? ⟨b, 2, none⟩ = some (.int .i64 e.kind)) (c3 : w.cell? ⟨b, 3, none⟩ = some (.string e.data))
    (hlen : l.length + 1 ≤ 3518437208883) (hbase : base ≤ w.heap.size)
    (h : ∀ v' w', Ents w' base v' (l ++ [e]) → w.grownBy w' v.ownBlock → wpList Try.prog ops Q rest (a.put o.dst v') w') : wpList Try.prog ops Q (o :: rest) a w := by
  refine wpList_plain hgd fun K hK => ?_
  unfold Oper.wp execOp
  simp only [ho, resolve, invoke, builtin, Sem.run_bind, Sem.run_pure, Result.andThen_ok, List.map_toArray, List.map_cons, List.map_nil, hs, hx]
  obtain ⟨v', w', hr, h2, h3, h5⟩ := run_append_ent w o.type base v l e he b n hown c0 c1 c2 c3 hlen hbase
  rw [hr]
  exact hK _ _ (h v' w' h2 h3)
/-- 'append' of an entry, as one step of a region that draws -/
theorem step_append_ent {K : Act → World → Prop} {E : Prop} (w : World) (hgd : o.guard = none) (s x : Operand) (ho : o.op = .call { callee := .builtin .append, args := #[s, x], argTypes := #[40, 40] })
    (base : Nat) (v : Value) (l : List Ent) (e : Ent) (he : e.Wf) (b : Nat) (n : Nat) (hs : a.eval s = v) (hown : Ents w base v l) (hx : a.eval x = .slice (some ⟨b, 0, none⟩) 1 n)
    (c0 : w.cell? ⟨b, 0, none⟩ = some (.int .u64 e.term)) (c1 : w.cell? ⟨b, 1, none⟩ = some (.int .u64 e.index)) (c2 : w.cell? ⟨b, 2, none⟩ = some (.int .i64 e.kind)) (c3 : w.cell? ⟨b, 3, none⟩ = some (.string e.data))
    (hlen : l.length + 1 ≤ 3518437208883) (hbase : base ≤ w.heap.size)
    (h : ∀ v' w', Ents w' base v' (l ++ [e]) → w.grownBy w' v.ownBlock → K (a.put o.dst v') w') : if Region.wanted o (yielded ops a.tmps) = true then Oper.wp Try.prog o a w K Q else E := by
  have hw : Region.wanted o (yielded ops a.tmps) = true := by simp [Region.wanted, hgd]
  rw [if_pos hw]
  unfold Oper.wp execOp
  simp only [ho, resolve, invoke, builtin, Sem.run_bind, Sem.run_pure, Result.andThen_ok, List.map_toArray, List.map_cons, List.map_nil, hs, hx]
  obtain ⟨v', w', hr, h2, h3, h5⟩ := run_append_ent w o.type base v l e he b n hown c0 c1 c2 c3 hlen hbase
  rw [hr]
  exact h v' w' h2 h3
/-- .. and where the new row lies -/
theorem step_append_entw {K : Act → World → Prop} {E : Prop} (w : World) (hgd : o.guard = none) (s x : Operand) (ho : o.op = .call { callee := .builtin .append, args := #[s, x], argTypes := #[40, 40] })
    (base : Nat) (v : Value) (l : List Ent) (e : Ent) (he : e.Wf) (b : Nat) (n : Nat) (hs : a.eval s = v) (hown : Ents w base v l) (hx : a.eval x = .slice (some ⟨b, 0, none⟩) 1 n)
    (c0 : w.cell? ⟨b, 0, none⟩ = some (.int .u64 e.term)) (c1 : w.cell? ⟨b, 1, none⟩ = some (.int .u64 e.index)) (c2 : w.cell? ⟨b, 2, none⟩ = some (.int .i64 e.kind)) (c3 : w.cell? ⟨b, 3, none⟩ = some (.string e.data))
    (hlen : l.length + 1 ≤ 3518437208883) (hbase : base ≤ w.heap.size)
    (h : ∀ v' w', Ents w' base v' (l ++ [e]) → w.grownBy w' v.ownBlock → (v'.ownBlock = v.ownBlock ∨ v'.ownBlock = some w.heap.size) → K (a.put o.dst v') w') : if Region.wanted o (yielded ops a.tmps) = true then Oper.wp Try.prog o a w K Q else E := by
  have hw : Region.wanted o (yielded ops a.tmps) = true := by simp [Region.wanted, hgd]
  rw [if_pos hw]
  unfold Oper.wp execOp
  simp only [ho, resolve, invoke, builtin, Sem.run_bind, Sem.run_pure, Result.andThen_ok, List.map_toArray, List.map_cons, List.map_nil, hs, hx]
  obtain ⟨v', w', hr, h2, h3, h5⟩ := run_append_ent w o.type base v l e he b n hown c0 c1 c2 c3 hlen hbase
  rw [hr]
  exact h v' w' h2 h3 h5
end
end Go.Proofs.Ytekmjhenhgmpgaa

/- Writing numbers and texts: what the program's writer makes is what the plain lists say. -/
namespace Go.Proofs.Ytekmjhenhgmpgaa
open Go.RowKit
set_option maxRecDepth 100000

/-- block p is a writer that has laid l, in a row of the call's own -/
def WriterAt (w : World) (base p : Nat) (l : List Int) : Prop := base ≤ p ∧ ∃ v, Blk w p #[v] 139 ∧ Bts w base v l

theorem Bts.apart {w : World} {base p : Nat} {v : Value} {l : List Int} {cs : Array Value} {t : TypeId} (h : Bts w base v l) (hb : Blk w p cs t) (ht : t ≠ 5) : v.ownBlock ≠ some p := by
  rcases h.2 with ⟨rfl, h0⟩ | ⟨g, cap, cur, rfl, _, hg, _⟩
  · simp [Value.ownBlock]
  · intro e
    have e' : g = p := by simpa [Value.ownBlock] using e
    subst e'
    unfold Blk at hb
    rw [hb] at hg
    cases hg
    exact ht rfl

section
variable {ops : Array Oper} {o : Oper} {a : Act} {K : Act → World → Prop} {Q : Exit → Act → World → Prop} {E : Prop}
/-- 'append' of a byte, as one step of a region that draws -/
theorem step_append_byte (w : World) (hgd : o.guard = none) (s x : Operand) (ho : o.op = .call { callee := .builtin .append, args := #[s, x], argTypes := #[80, 80] })
    (base : Nat) (v : Value) (l : List Int) (c : Int) (ad : Addr) (n : Nat) (hs : a.eval s = v) (hown : Bts w base v l) (hx : a.eval x = .slice (some ad) 1 n) (hc : w.cell? ad = some (.int .u8 c))
    (hlen : l.length + 1 ≤ 140737488355328) (hbase : base ≤ w.heap.size)
    (h : ∀ v' w', Bts w' base v' (l ++ [c]) → w.grownBy w' v.ownBlock → K (a.put o.dst v') w') : if Region.wanted o (yielded ops a.tmps) = true then Oper.wp Try.prog o a w K Q else E := by
  have hw : Region.wanted o (yielded ops a.tmps) = true := by simp [Region.wanted, hgd]
  rw [if_pos hw]
  obtain ⟨i, hi, hz, hsz, hby⟩ := info_parts By.info
  unfold Oper.wp execOp
  simp only [ho, resolve, invoke, builtin, Sem.run_bind, Sem.run_pure, Result.andThen_ok, List.map_toArray, List.map_cons, List.map_nil, hs, hx]
  obtain ⟨v', w', hr, h2, h3, _, h5⟩ := run_append_own_at (P := Try.prog) w base 80 o.type 5 i (.int .u8 0) 1 1 By.u_bytes hi hz hsz hby rfl (by decide) v l.length _ hown ad 1 n [.int .u8 c] (by simp) (by
    intro j u hj
    cases j with
    | zero =>
      cases hj
      have : ad.add 0 = ad := by unfold Addr.add; obtain ⟨b, off, sp⟩ := ad; cases sp <;> rfl
      rw [this]; exact hc
    | succ j => cases hj) (by simp [Value.oneCell']) (by unfold maxLen; omega) (by omega) hbase
  rw [hr]
  refine h v' w' ?_ h3
  unfold Bts
  simpa using h2
end

theorem cell_byte_drew (w : World) (c : Int) (t : TypeId) (n : Nat) (hn : n = w.heap.size) : (w.alloc (.cells #[.int .u8 c] t)).drew.cell? ⟨n, 0, none⟩ = some (.int .u8 c) := cell_byte w c t n hn
theorem shr_byte (x i : Nat) : IntKind.u8.wrap ((x : Int) / 2 ^ (8 * (i : Int)).toNat) = ((x / 256 ^ i % 256 : Nat) : Int) := by
  have e : (8 * (i : Int)).toNat = 8 * i := by omega
  have e2 : (256 : Nat) ^ i = 2 ^ (8 * i) := by rw [Nat.pow_mul]
  rw [e, e2]
  show ((x : Int) / 2 ^ (8 * i)) % 256 = _
  norm_cast
theorem WriterAt.put {w2 : World} {base p : Nat} {v v2 : Value} {m : List Int} (hbp : base ≤ p) (hp2 : Blk w2 p #[v] 139) (hb2 : Bts w2 base v2 m) : WriterAt (w2.setCell ⟨p, 0, none⟩ v2) base p m := by
  have hap := hb2.apart hp2 (by decide)
  refine ⟨hbp, v2, hp2.setCell 0 v2, Bts.keeps (S := fun k => k = p) hb2 ((Only.refl (fun k => k = p) w2).setCell (p := ⟨p, 0, none⟩) (fun _ => rfl) _) ?_⟩
  intro k hk e
  subst e
  exact hap hk
theorem writer_only2 {w w1 w2 : World} {base p : Nat} {v v2 : Value} {l : List Int} {o : Obj} (hbp : base ≤ p) (ho : Only (fun k => base ≤ k) w w1) (hown : Bts w1 base v l) (hg : (w1.alloc o).drew.grownBy w2 v.ownBlock) : Only (fun k => base ≤ k) w (w2.setCell ⟨p, 0, none⟩ v2) :=
  (((ho.alloc o).drew).grown hg (fun k hk _ => (World.ownsRow.lt hown k hk).1)).setCell (p := ⟨p, 0, none⟩) (fun _ => hbp) _
theorem writer_only {w w1 w2 : World} {base p : Nat} {v v2 : Value} {l : List Int} {o : Obj} (hbp : base ≤ p) (ho : Only (fun k => base ≤ k) w w1) (hown : Bts w1 base v l) (hg : (w1.alloc o).grownBy w2 v.ownBlock) : Only (fun k => base ≤ k) w (w2.setCell ⟨p, 0, none⟩ v2) :=
  ((ho.alloc o).grown hg (fun k hk _ => (World.ownsRow.lt hown k hk).1)).setCell (p := ⟨p, 0, none⟩) (fun _ => hbp) _

set_option maxHeartbeats 2000000 in
theorem wnum_at (w : World) (base p : Nat) (l : List Int) (h : WriterAt w base p l) (x : Nat) (hx : x < 18446744073709551616) (hlen : l.length ≤ 100000000000000) :
    Calls Try.prog 72 #[.pointer (some ⟨p, 0, none⟩), .int .u64 x] w fun e w' => e = .returned (.pointer (some ⟨p, 0, none⟩)) ∧ WriterAt w' base p (l ++ Pk.num x) ∧ Only (fun k => base ≤ k) w w' := by
  obtain ⟨hbp, v, hblk, hown⟩ := h
  have hpl := hblk.lt
  have hs8 := Pk.size_le8 hx
  go_enter Try.func72, Try.ntmps72
  go_wp2_with fail
  go_loop [5, 6] (fun v5 v6 => ∃ (k y : Nat), v5 = .int .i64 k ∧ v6 = .int .u64 y ∧ y < 18446744073709551616 ∧ k + Pk.size y = Pk.size x) (fun _ v6 => (intOf v6).toNat)
  case atStart => exact ⟨0, x, rfl, rfl, hx, by omega⟩
  case round =>
    obtain ⟨k, y, rfl, rfl, hy, hk⟩ := hrel
    by_cases h0 : 0 < y
    · have hsp := Pk.size_pos h0
      go_wp2_with fail
      have e : ((y : Int) / 256) = ((y / 256 : Nat) : Int) := by omega
      exact ⟨⟨k + 1, y / 256, by go_num, by rw [e], by omega, by omega⟩, by simp [intOf]; omega⟩
    · obtain rfl : y = 0 := by omega
      have hz := Pk.size_zero
      obtain ⟨K, hK⟩ : ∃ K, Pk.size x = K := ⟨_, rfl⟩
      have hkK : k = K := by omega
      subst hkK
      rw [hK] at hs8
      have HK := Lib.hid hK
      clear hK hk hz h0
      have hap := hown.apart hblk (by decide)
      have c0 := hblk.cell 0
      have f0 := hblk.free 0
      simp at c0
      have hapd : ∀ w2, w.grownBy w2 v.ownBlock → Blk w2 p #[v] 139 := fun w2 hg => (hg.block p hpl (fun e => hap e.symm)).trans hblk
      go_upto_region 9 with (first
        | (at_builtin; refine wpList_append_byte _ rfl _ _ rfl base _ l (k : Int) ⟨w.heap.size, 0, none⟩ 1 rfl (hown.keeps ((Only.refl NoBlock _).alloc _) (fun _ _ h => h)) rfl ?_ ?_ ?_ ?_; (exact cell_byte _ _ _ _ rfl); omega; (simp; omega); intro v2 w2 hb2 hg2; have hp2 : Blk w2 p #[v] 139 := (hg2.block p (by simp; omega) (fun e => hap e.symm)).trans (hblk.alloc _); have c2 := hp2.cell 0; have f2 := hp2.free 0; simp at c2; obtain ⟨g2, cap2, rfl, _, _, _⟩ := Bts.shape hb2 (by simp)))
      have hlk : (l ++ [(k : Int)]).length = l.length + 1 := by simp
      rw [hlk] at hb2
      have hW := WriterAt.put hbp hp2 hb2
      have hO : Only (fun k => base ≤ k) w (w2.setCell ⟨p, 0, none⟩ (.slice (some ⟨g2, 0, none⟩) (l.length + 1) cap2)) := writer_only hbp (Only.refl _ _) hown hg2
      generalize w2.setCell ⟨p, 0, none⟩ (.slice (some ⟨g2, 0, none⟩) (l.length + 1) cap2) = w3 at hW hO ⊢
      clear hb2 hp2 hg2 hapd hap hown hblk c0 f0 c2 f2
      go_wp2_with fail
      go_loopw [7] (fun v7 wr => ∃ j : Nat, j ≤ k ∧ v7 = .int .i64 ((k : Int) - 1 - j) ∧ WriterAt wr base p ((l ++ [(k : Int)]) ++ (Pk.be k x).take j) ∧ Only (fun k => base ≤ k) w wr) (fun v7 _ => (intOf v7 + 1).toNat)
      case atStart => exact ⟨0, by omega, by simp, by simpa using hW, hO⟩
      case round =>
        clear hW hO
        obtain ⟨j, hj, rfl, hW, hO⟩ := hrel
        by_cases hlt : j < k
        · obtain ⟨-, v, hblk, hown⟩ := hW
          have htk := Pk.be_take (x := x) hlt
          have HT := Lib.hid htk
          clear htk
          obtain ⟨m, hm⟩ : ∃ m, (l ++ [(k : Int)]) ++ (Pk.be k x).take j = m := ⟨_, rfl⟩
          have htl : m.length ≤ 100000000000009 := by
            rw [← hm, List.length_append, List.length_append, List.length_take]; simp; omega
          rw [hm] at hown
          have HM : RowKit.Hid ((l ++ [(k : Int)]) ++ (Pk.be k x).take (j + 1) = m ++ [((x / 256 ^ (k - 1 - j) % 256 : Nat) : Int)]) := Lib.hid (by rw [HT.out, ← hm, List.append_assoc, List.append_assoc, List.append_assoc])
          clear hm HT
          obtain ⟨i, hi⟩ : ∃ i, k = i + 1 + j := ⟨k - 1 - j, by omega⟩
          have hij : k - 1 - j = i := by omega
          rw [hij] at HM
          have hap := hown.apart hblk (by decide)
          have c0 := hblk.cell 0
          have f0 := hblk.free 0
          simp at c0
          have hpl2 := hblk.lt
          have hv7 : (k : Int) - 1 - j = (i : Int) := by omega
          rw [hv7]
          clear hv7
          have hi8 : i ≤ 7 := by omega
          have hw8 : IntKind.i64.wrap (8 * (i : Int)) = 8 * (i : Int) := IntWalk.i64_in _ (by omega)
          have hi0 : (0 : Int) ≤ 8 * (i : Int) := by omega
          have hsb := shr_byte x i
          have HI := Lib.hid hi
          clear hi hij hlt hj
          go_upto_region 12 with fail
          go_region_law (refine step_append_byte _ rfl _ _ rfl base _ _ ((x / 256 ^ i % 256 : Nat) : Int) ⟨wr.heap.size, 0, none⟩ 1 rfl (hown.keeps (((Only.refl NoBlock _).alloc _).drew) (fun _ _ h => h)) rfl ?_ ?_ ?_ ?_; (exact cell_byte_drew _ _ _ _ rfl); omega; (simp; omega); intro v2 w2 hb2 hg2; have hp2 : Blk w2 p #[v] 139 := (hg2.block p (by simp; omega) (fun e => hap e.symm)).trans (hblk.alloc _); have c2 := hp2.cell 0; have f2 := hp2.free 0; simp at c2; obtain ⟨g2, cap2, rfl, _, _, _⟩ := Bts.shape hb2 (by simp))
          all_goals
            have hlk : (m ++ [((x / 256 ^ i % 256 : Nat) : Int)]).length = m.length + 1 := by simp
            rw [hlk] at hb2
            have hW := WriterAt.put hbp hp2 hb2
            have hO2 : Only (fun k => base ≤ k) w (w2.setCell ⟨p, 0, none⟩ (.slice (some ⟨g2, 0, none⟩) (m.length + 1) cap2)) := writer_only2 hbp hO hown hg2
            generalize w2.setCell ⟨p, 0, none⟩ (.slice (some ⟨g2, 0, none⟩) (m.length + 1) cap2) = w3 at hW hO2 ⊢
            clear hb2 hp2 hg2 c2 f2 hsb hi0 hw8
            go_wp2_with fail
            go_roundw
            case rel => exact ⟨j + 1, by have := HI.out; omega, by congr 1; have := HI.out; omega, by rw [HM.out]; exact hW, hO2⟩
            case measure => simp [intOf]
        · obtain rfl : j = k := by omega
          rw [List.take_of_length_le (by rw [Pk.be_length]; omega)] at hW
          have hn : l ++ Pk.num x = (l ++ [(j : Int)]) ++ Pk.be j x := by unfold Pk.num; rw [HK.out]; simp
          have HN := Lib.hid hn
          clear hn
          go_wp2_with fail
          go_ret
          exact ⟨rfl, by rw [HN.out]; exact hW, hO⟩


theorem strCells_nums (s : ByteArray) : Lib.strCells s = (nums s).map (Value.int .u8) := by
  unfold Lib.strCells nums
  rw [List.map_map]
  rfl
section
variable {ops : Array Oper} {rest : List Oper} {o : Oper} {a : Act} {Q : Exit → Act → World → Prop}
/-- 'append' of a text's bytes -/
theorem wpList_append_text (w : World) (hgd : o.guard = none) (s x : Operand) (ho : o.op = .call { callee := .builtin .append, args := #[s, x], argTypes := #[80, 9] })
    (base : Nat) (v : Value) (l : List Int) (t : ByteArray) (hs : a.eval s = v) (hown : Bts w base v l) (hx : a.eval x = .string t)
    (hlen : l.length + t.size ≤ 140737488355328) (hbase : base ≤ w.heap.size)
    (h : ∀ v' w', Bts w' base v' (l ++ nums t) → w.grownBy w' v.ownBlock → wpList Try.prog ops Q rest (a.put o.dst v') w') : wpList Try.prog ops Q (o :: rest) a w := by
  obtain ⟨i, hi, hz, hsz, hby⟩ := info_parts By.info
  refine wpList_plain hgd fun K hK => ?_
  unfold Oper.wp execOp
  simp only [ho, resolve, invoke, builtin, Sem.run_bind, Sem.run_pure, Result.andThen_ok, List.map_toArray, List.map_cons, List.map_nil, hs, hx]
  obtain ⟨v', w', hr, h2, h3, _⟩ := Lib.run_append_own_string (P := Try.prog) w base 80 9 o.type 5 i By.u_bytes Cv.u_string hi hz hsz hby v l.length _ hown t (by unfold maxLen; omega) (by omega) hbase
  rw [hr]
  refine hK _ _ (h v' w' ?_ h3)
  unfold Bts
  rw [strCells_nums, ← nums_length, ← List.map_append, ← List.length_append] at h2
  exact h2
end

set_option maxHeartbeats 2000000 in
theorem wtext_at (w : World) (base p : Nat) (l : List Int) (h : WriterAt w base p l) (t : ByteArray) (ht : t.size ≤ 1000000000000) (hlen : l.length ≤ 10000000000000) :
    Calls Try.prog 74 #[.pointer (some ⟨p, 0, none⟩), .string t] w fun e w' => e = .returned (.pointer (some ⟨p, 0, none⟩)) ∧ WriterAt w' base p (l ++ Pk.text (nums t)) ∧ Only (fun k => base ≤ k) w w' := by
  have hn : l ++ Pk.text (nums t) = (l ++ Pk.num t.size) ++ nums t := by unfold Pk.text; rw [nums_length, List.append_assoc]
  have HN := Lib.hid hn
  have h8 := Pk.size_le8 (x := t.size) (by omega)
  have hnl := Pk.num_length t.size
  clear hn
  go_enter Try.func74, Try.ntmps74
  go_wp2_with fail
  refine (wnum_at w base p l h t.size (by omega) (by omega)).mono ?_
  rintro e w1 ⟨rfl, hW, hO⟩
  have hml : (l ++ Pk.num t.size).length ≤ 10000000000009 := by rw [List.length_append]; omega
  have hmp : 0 < (l ++ Pk.num t.size).length := by rw [List.length_append]; omega
  generalize l ++ Pk.num t.size = m at hW HN hml hmp
  obtain ⟨hbp, v, hblk, hown⟩ := hW
  have hap := hown.apart hblk (by decide)
  have c0 := hblk.cell 0
  have f0 := hblk.free 0
  simp at c0
  have hpl := hblk.lt
  obtain ⟨g, cap, rfl, _, _, _⟩ := Bts.shape hown hmp
  go_wp2_with (first
    | (at_builtin; refine wpList_append_text _ rfl _ _ rfl base _ m t rfl hown rfl (by omega) (by omega) ?_; intro v2 w2 hb2 hg2; have hp2 : Blk w2 p #[_] 139 := (hg2.block p hpl (fun e => hap e.symm)).trans hblk; have c2 := hp2.cell 0; have f2 := hp2.free 0; simp at c2; obtain ⟨g2, cap2, rfl, _, _, _⟩ := Bts.shape hb2 (by rw [List.length_append]; omega)))
  go_ret
  have hll : (m ++ nums t).length = m.length + (nums t).length := List.length_append
  rw [hll] at hb2
  refine ⟨rfl, by rw [HN.out]; exact WriterAt.put hbp hp2 hb2, ?_⟩
  exact (hO.grown hg2 (fun k hk _ => (World.ownsRow.lt hown k hk).1)).setCell (p := ⟨p, 0, none⟩) (fun _ => hbp) _

theorem wbytes_at (w : World) (base p : Nat) (l : List Int) (h : WriterAt w base p l) (hw : ∀ c ∈ l, 0 ≤ c ∧ c ≤ 255) :
    Calls Try.prog 73 #[.pointer (some ⟨p, 0, none⟩)] w fun e w' => e = .returned (.string (textOf l)) ∧ w = w' := by
  obtain ⟨hbp, v, hblk, hown⟩ := h
  have c0 := hblk.cell 0
  simp at c0
  obtain ⟨ao, cap, rfl⟩ := Bts.shape' hown
  have hbi := hown.read hw
  go_enter Try.func73, Try.ntmps73
  go_wp2_with (first
    | (refine wpList_conv_text _ rfl _ _ rfl Cv.u_string Cv.u_byte ao _ cap l ?_ rfl hbi ?_; (rfl)))
  go_ret
  exact ⟨rfl, rfl⟩

/-! ### reading -/
namespace Pk
theorem ba_list {x y : ByteArray} (h : x ≠ y) : x.toList ≠ y.toList := by
  rw [ByteArray.toList_eq, ByteArray.toList_eq]
  obtain ⟨⟨a⟩⟩ := x
  obtain ⟨⟨b⟩⟩ := y
  intro e
  exact h (by cases e; rfl)
end Pk
theorem textOf_extract {l : List Int} (h : ∀ c ∈ l, 0 ≤ c ∧ c ≤ 255) (a b : Nat) : (textOf l).extract a b = textOf ((l.drop a).take (b - a)) := by
  apply nums_inj
  rw [nums_extract, nums_textOf h, nums_textOf (fun c hc => h c (List.mem_of_mem_drop (List.mem_of_mem_take hc)))]
theorem textOf_get {l : List Int} (h : ∀ c ∈ l, 0 ≤ c ∧ c ≤ 255) {i : Nat} (hi : i < (textOf l).size) : (((textOf l)[i]'hi).toNat : Int) = l.getD i 0 := by
  rw [← nums_get _ i hi, nums_textOf h]
theorem textOf_nil : textOf [] = ⟨#[]⟩ := rfl

/-- block p is a reader -/
def ReaderAt (w : World) (p : Nat) (r : Pk.RD) : Prop := Blk w p #[.string (textOf r.s), .bool r.bad] 153 ∧ (∀ c ∈ r.s, 0 ≤ c ∧ c ≤ 255) ∧ r.s.length ≤ 1000000000000

theorem rfail_at (w : World) (p : Nat) (s : ByteArray) (b : Bool) (h : Blk w p #[.string s, .bool b] 153) :
    Calls Try.prog 85 #[.pointer (some ⟨p, 0, none⟩)] w fun e w' => e = .returned (.int .u64 0) ∧ ReaderAt w' p ⟨[], true⟩ ∧ Only (fun k => k = p) w w' := by
  have c0 := h.cell 0
  have c1 := h.cell 1
  have f0 := h.free 0
  have f1 := h.free 1
  simp at c0 c1
  go_enter Try.func85, Try.ntmps85
  go_wp2_with fail
  go_ret
  refine ⟨rfl, ⟨?_, by simp, by simp⟩, ?_⟩
  · exact (h.setCell 0 _).setCell 1 _
  · exact ((Only.refl (fun k => k = p) w).setCell (p := ⟨p, 0, none⟩) (fun _ => rfl) _).setCell (p := ⟨p, 1, none⟩) (fun _ => rfl) _


namespace Pk
theorem numV_no {s : List Int} (h : okNum s = false) : numV s = 0 := by unfold numV; rw [h]; rfl
theorem numR_no {r : RD} (h : okNum r.s = false) : numR r = ⟨[], true⟩ := by unfold numR; rw [h]; rfl
end Pk

theorem Pk.or_nat {x y : Nat} (hx : x < 2 ^ 64) (hy : y < 2 ^ 64) : bits .or .u64 (x : Int) (y : Int) = ((x ||| y : Nat) : Int) := by
  unfold bits
  simp only [IntKind.wrap_u64]
  show ((BitVec.ofInt 64 (x : Int) ||| BitVec.ofInt 64 (y : Int)).toNat : Int) % 18446744073709551616 = _
  rw [BitVec.toNat_or, BitVec.ofInt_natCast, BitVec.ofInt_natCast, BitVec.toNat_ofNat, BitVec.toNat_ofNat, Nat.mod_eq_of_lt hx, Nat.mod_eq_of_lt hy]
  have := Nat.or_lt_two_pow (n := 64) hx hy
  omega
theorem Pk.or_byte {x : Nat} {c : Int} (hx : x < 72057594037927936) (h0 : 0 ≤ c) (h1 : c ≤ 255) : bits .or .u64 ((x : Int) * 256) c = ((256 * x + c.toNat : Nat) : Int) := by
  obtain ⟨k, rfl⟩ := Int.eq_ofNat_of_zero_le h0
  have e : ((x : Int) * 256) = ((x * 256 : Nat) : Int) := by omega
  rw [e, Pk.or_nat (by omega) (by omega)]
  have h := Nat.shiftLeft_add_eq_or_of_lt (b := k) (i := 8) (by omega) x
  rw [Nat.shiftLeft_eq] at h
  have e2 : x * 2 ^ 8 = x * 256 := rfl
  rw [e2] at h
  rw [← h]
  have : (k : Int).toNat = k := by omega
  rw [this]
  omega

set_option maxHeartbeats 2000000 in
theorem rnum_at (w : World) (p : Nat) (r : Pk.RD) (h : ReaderAt w p r) :
    Calls Try.prog 63 #[.pointer (some ⟨p, 0, none⟩)] w fun e w' => e = .returned (.int .u64 (Pk.numV r.s : Nat)) ∧ ReaderAt w' p (Pk.numR r) ∧ Only (fun k => k = p) w w' := by
  obtain ⟨hb, hw, hl⟩ := h
  obtain ⟨s, bad⟩ := r
  simp only at hb hw hl ⊢
  have c0 := hb.cell 0
  have c1 := hb.cell 1
  have f0 := hb.free 0
  simp at c0 c1
  cases s with
  | nil =>
    have HV := Lib.hid (Pk.numV_no (s := []) rfl)
    have HR := Lib.hid (Pk.numR_no (r := ⟨[], bad⟩) rfl)
    rw [textOf_nil] at c0 hb
    go_enter Try.func63, Try.ntmps63
    go_wp2_with fail
    refine (rfail_at w p _ _ hb).mono ?_
    rintro e w1 ⟨rfl, hR, hO⟩
    go_wp2_with fail
    go_ret
    exact ⟨by rw [HV.out]; rfl, by rw [HR.out]; exact hR, hO⟩
  | cons n t =>
    have hsz : (textOf (n :: t)).size = t.length + 1 := by rw [textOf_size]; rfl
    have hg0 := textOf_get hw (i := 0) (by omega)
    rw [List.getD_cons_zero] at hg0
    obtain ⟨hn0, hn1⟩ := hw n (by simp)
    have hl1 : t.length ≤ 1000000000000 := by rw [List.length_cons] at hl; omega
    have hwt : wrap64 (t.length : Int) = (t.length : Int) := by unfold wrap64; omega
    have hne : ((textOf (n :: t)).toList == []) = false := by
      have : (textOf (n :: t)).toList ≠ (⟨#[]⟩ : ByteArray).toList := Pk.ba_list (by intro e; have := congrArg ByteArray.size e; have h0 : (⟨#[]⟩ : ByteArray).size = 0 := rfl; omega)
      simpa using this
    go_enter Try.func63, Try.ntmps63
    go_upto_region 4 with fail
    clear hg0 hne
    by_cases h8 : 8 < n
    · have hno : Pk.okNum (n :: t) = false := by unfold Pk.okNum; simp [h8]
      have hd8 : decide ((8 : Int) < n) = true := by simpa using h8
      clear h8
      have HV := Lib.hid (Pk.numV_no hno)
      have HR := Lib.hid (Pk.numR_no (r := ⟨n :: t, bad⟩) hno)
      clear hno
      go_wp2_with fail
      refine (rfail_at w p _ _ hb).mono ?_
      rintro e w1 ⟨rfl, hR, hO⟩
      go_wp2_with fail
      go_ret
      exact ⟨by rw [HV.out]; rfl, by rw [HR.out]; exact hR, hO⟩
    have hd8 : decide ((8 : Int) < n) = false := by simpa using h8
    by_cases hlt : (t.length : Int) < n
    · have hno : Pk.okNum (n :: t) = false := by unfold Pk.okNum; simp [hlt]
      have hd9 : decide ((t.length : Int) < n) = true := by simpa using hlt
      clear hlt h8
      have HV := Lib.hid (Pk.numV_no hno)
      have HR := Lib.hid (Pk.numR_no (r := ⟨n :: t, bad⟩) hno)
      clear hno
      go_wp2_with fail
      refine (rfail_at w p _ _ hb).mono ?_
      rintro e w1 ⟨rfl, hR, hO⟩
      go_wp2_with fail
      go_ret
      exact ⟨by rw [HV.out]; rfl, by rw [HR.out]; exact hR, hO⟩
    have hd9 : decide ((t.length : Int) < n) = false := by simpa using hlt
    obtain ⟨m, rfl⟩ : ∃ m : Nat, n = (m : Int) := ⟨n.toNat, by omega⟩
    have hm8 : m ≤ 8 := by omega
    have hmt : m ≤ t.length := by omega
    clear h8 hlt
    by_cases hz : 0 < m ∧ t.getD 0 0 = 0
    · have hno : Pk.okNum ((m : Int) :: t) = false := by
        unfold Pk.okNum
        have h1 := hz.1
        have h2 := hz.2
        simp only [Bool.not_eq_false', Bool.or_eq_true, Bool.and_eq_true, decide_eq_true_eq]
        exact .inr ⟨by omega, h2⟩
      have hs1 : 1 < (textOf ((m : Int) :: t)).size := by omega
      have hg1 := textOf_get hw hs1
      rw [List.getD_cons_succ, hz.2] at hg1
      have hm0 := hz.1
      have hd0 : decide ((0 : Int) < (m : Int)) = true := by simpa using hm0
      clear hz
      have HV := Lib.hid (Pk.numV_no hno)
      have HR := Lib.hid (Pk.numR_no (r := ⟨(m : Int) :: t, bad⟩) hno)
      clear hno
      go_wp2_with fail
      refine (rfail_at w p _ _ hb).mono ?_
      rintro e w1 ⟨rfl, hR, hO⟩
      go_wp2_with fail
      go_ret
      exact ⟨by rw [HV.out]; rfl, by rw [HR.out]; exact hR, hO⟩
    have hok : Pk.okNum ((m : Int) :: t) = true := by
      unfold Pk.okNum
      simp only [Bool.not_eq_true', Bool.or_eq_false_iff, Bool.and_eq_false_iff, decide_eq_false_iff_not]
      refine ⟨⟨by omega, by omega⟩, ?_⟩
      by_cases h : 0 < m
      · exact .inr (fun e => hz ⟨h, e⟩)
      · exact .inl (by omega)
    have hV : Pk.numV ((m : Int) :: t) = Pk.val (t.take m) := by unfold Pk.numV; rw [if_pos hok]; rfl
    have hR : Pk.numR ⟨(m : Int) :: t, bad⟩ = ⟨t.drop m, bad⟩ := by unfold Pk.numR; simp only; rw [if_pos hok]; rfl
    have HV := Lib.hid hV
    have HR := Lib.hid hR
    clear hok hV hR
    by_cases hm0 : 0 < m
    · have hs1 : 1 < (textOf ((m : Int) :: t)).size := by omega
      have hg1 := textOf_get hw hs1
      rw [List.getD_cons_succ] at hg1
      have hzz : (t.getD 0 0 == 0) = false := by
        have : t.getD 0 0 ≠ 0 := fun e => hz ⟨hm0, e⟩
        simpa using this
      generalize t.getD 0 0 = c at hg1 hzz
      have hd0 : decide ((0 : Int) < (m : Int)) = true := by simpa using hm0
      go_upto_region 8 with fail
      clear hg1 hzz hz hm0 hd0 hd8 hd9
      go_loop [4, 5] (fun v4 v5 => ∃ j : Nat, j ≤ m ∧ v5 = .int .i64 ((j : Int) + 1) ∧ v4 = .int .u64 (Pk.val (t.take j) : Nat)) (fun _ v5 => m + 1 - (intOf v5).toNat)
      case atStart => exact ⟨0, by omega, rfl, rfl⟩
      case round =>
        obtain ⟨j, hj, rfl, rfl⟩ := hrel
        by_cases hjm : j < m
        · have hjs : j + 1 < (textOf ((m : Int) :: t)).size := by omega
          have hgj := textOf_get hw hjs
          rw [List.getD_cons_succ] at hgj
          have htk : Pk.val (t.take (j + 1)) = 256 * Pk.val (t.take j) + (t.getD j 0).toNat := by
            rw [List.take_add_one, List.getElem?_eq_getElem (by omega), List.getD_eq_getElem?_getD, List.getElem?_eq_getElem (by omega)]
            exact Pk.val_snoc _ _
          have hcb := hw (t.getD j 0) (by
            rw [List.getD_eq_getElem?_getD, List.getElem?_eq_getElem (by omega)]
            exact List.mem_cons_of_mem _ (List.getElem_mem _))
          have hvl := Pk.val_lt (t.take j) (fun c hc => hw c (List.mem_cons_of_mem _ (List.mem_of_mem_take hc)))
          have hvb : Pk.val (t.take j) < 72057594037927936 := by
            refine Nat.lt_of_lt_of_le hvl ?_
            have : (t.take j).length ≤ 7 := by rw [List.length_take]; omega
            exact Nat.le_trans (Nat.pow_le_pow_right (by decide) this) (by decide)
          have HT := Lib.hid htk
          clear htk hvl
          generalize t.getD j 0 = c at hgj hcb HT
          generalize Pk.val (t.take j) = x at hvb HT ⊢
          obtain ⟨hc0, hc1⟩ := hcb
          go_wp2_with fail
          exact ⟨⟨j + 1, by omega, by congr 1, by rw [Pk.or_byte hvb hc0 hc1, HT.out]⟩, by simp [intOf]; omega⟩
        · obtain rfl : j = m := by omega
          have hdl : (t.drop j).length = t.length - j := List.length_drop
          have hex : (textOf ((j : Int) :: t)).extract (j + 1) (t.length + 1) = textOf (t.drop j) := by
            rw [textOf_extract hw, List.drop_succ_cons, List.take_of_length_le (by omega)]
          have HEX := Lib.hid hex
          clear hex hdl
          go_wp2_with fail
          rw [HEX.out]
          go_ret
          refine ⟨by rw [HV.out]; rfl, by rw [HR.out]; exact ⟨hb.setCell 0 _, fun c hc => hw c (List.mem_cons_of_mem _ (List.mem_of_mem_drop hc)), by simp only [List.length_drop]; omega⟩, (Only.refl (fun k => k = p) w).setCell (p := ⟨p, 0, none⟩) (fun _ => rfl) _⟩
    · have hd0 : decide ((0 : Int) < (m : Int)) = false := by simp; omega
      go_upto_region 8 with fail
      clear hz hm0 hd0 hd8 hd9
      go_loop [4, 5] (fun v4 v5 => ∃ j : Nat, j ≤ m ∧ v5 = .int .i64 ((j : Int) + 1) ∧ v4 = .int .u64 (Pk.val (t.take j) : Nat)) (fun _ v5 => m + 1 - (intOf v5).toNat)
      case atStart => exact ⟨0, by omega, rfl, rfl⟩
      case round =>
        obtain ⟨j, hj, rfl, rfl⟩ := hrel
        by_cases hjm : j < m
        · have hjs : j + 1 < (textOf ((m : Int) :: t)).size := by omega
          have hgj := textOf_get hw hjs
          rw [List.getD_cons_succ] at hgj
          have htk : Pk.val (t.take (j + 1)) = 256 * Pk.val (t.take j) + (t.getD j 0).toNat := by
            rw [List.take_add_one, List.getElem?_eq_getElem (by omega), List.getD_eq_getElem?_getD, List.getElem?_eq_getElem (by omega)]
            exact Pk.val_snoc _ _
          have hcb := hw (t.getD j 0) (by
            rw [List.getD_eq_getElem?_getD, List.getElem?_eq_getElem (by omega)]
            exact List.mem_cons_of_mem _ (List.getElem_mem _))
          have hvl := Pk.val_lt (t.take j) (fun c hc => hw c (List.mem_cons_of_mem _ (List.mem_of_mem_take hc)))
          have hvb : Pk.val (t.take j) < 72057594037927936 := by
            refine Nat.lt_of_lt_of_le hvl ?_
            have : (t.take j).length ≤ 7 := by rw [List.length_take]; omega
            exact Nat.le_trans (Nat.pow_le_pow_right (by decide) this) (by decide)
          have HT := Lib.hid htk
          clear htk hvl
          generalize t.getD j 0 = c at hgj hcb HT
          generalize Pk.val (t.take j) = x at hvb HT ⊢
          obtain ⟨hc0, hc1⟩ := hcb
          go_wp2_with fail
          exact ⟨⟨j + 1, by omega, by congr 1, by rw [Pk.or_byte hvb hc0 hc1, HT.out]⟩, by simp [intOf]; omega⟩
        · obtain rfl : j = m := by omega
          have hdl : (t.drop j).length = t.length - j := List.length_drop
          have hex : (textOf ((j : Int) :: t)).extract (j + 1) (t.length + 1) = textOf (t.drop j) := by
            rw [textOf_extract hw, List.drop_succ_cons, List.take_of_length_le (by omega)]
          have HEX := Lib.hid hex
          clear hex hdl
          go_wp2_with fail
          rw [HEX.out]
          go_ret
          refine ⟨by rw [HV.out]; rfl, by rw [HR.out]; exact ⟨hb.setCell 0 _, fun c hc => hw c (List.mem_cons_of_mem _ (List.mem_of_mem_drop hc)), by simp only [List.length_drop]; omega⟩, (Only.refl (fun k => k = p) w).setCell (p := ⟨p, 0, none⟩) (fun _ => rfl) _⟩

end Go.Proofs.Ytekmjhenhgmpgaa

/- Reading on: limits, texts, what is left; what the program's reader answers is what the plain lists say. -/
namespace Go.Proofs.Ytekmjhenhgmpgaa
open Go.RowKit
set_option maxRecDepth 100000

theorem rfrom_at (w : World) (s : ByteArray) (hs : s.size ≤ 1000000000000) :
    Calls Try.prog 62 #[.string s] w fun e w' => e = .returned (.pointer (some ⟨w.heap.size, 0, none⟩)) ∧ ReaderAt w' w.heap.size ⟨nums s, false⟩ ∧ Only NoBlock w w' := by
  go_enter Try.func62, Try.ntmps62
  go_wp2_with fail
  go_ret
  refine ⟨rfl, ⟨?_, nums_byte s, by rw [nums_length]; exact hs⟩, (Only.refl _ _).alloc _⟩
  rw [textOf_nums]
  exact Blk.made w _ _

theorem rup_at (w : World) (p : Nat) (r : Pk.RD) (h : ReaderAt w p r) (L : Nat) (hL : L ≤ 9223372036854775807) :
    Calls Try.prog 64 #[.pointer (some ⟨p, 0, none⟩), .int .i64 (L : Int)] w fun e w' => e = .returned (.int .i64 ((r.up L).1 : Nat)) ∧ ReaderAt w' p (r.up L).2 ∧ Only (fun k => k = p) w w' := by
  have hlt := Pk.numV_lt h.2.1
  go_enter Try.func64, Try.ntmps64
  go_wp2_with fail
  refine (rnum_at w p r h).mono ?_
  rintro e w1 ⟨rfl, hR, hO⟩
  by_cases hle : Pk.numV r.s ≤ L
  · have hu : r.up L = (Pk.numV r.s, Pk.numR r) := by unfold Pk.RD.up; rw [if_pos hle]
    have HU := Lib.hid hu
    clear hu
    generalize Pk.numV r.s = x at hlt hle HU ⊢
    have hd : decide ((L : Int) < (x : Int)) = false := by simp; omega
    have hl0 : ¬ (L : Int) < 0 := by omega
    go_wp2_with fail
    go_ret
    exact ⟨by rw [HU.out]; rfl, by rw [HU.out]; exact hR, hO⟩
  · have hu : r.up L = (0, ⟨[], true⟩) := by unfold Pk.RD.up; rw [if_neg hle]
    have HU := Lib.hid hu
    clear hu
    generalize Pk.numV r.s = x at hlt hle HU ⊢
    have hd : decide ((L : Int) < (x : Int)) = true := by simp; omega
    have hl0 : ¬ (L : Int) < 0 := by omega
    go_wp2_with fail
    refine (rfail_at w1 p _ _ hR.1).mono ?_
    rintro e w2 ⟨rfl, hR2, hO2⟩
    go_wp2_with fail
    go_ret
    exact ⟨by rw [HU.out]; rfl, by rw [HU.out]; exact hR2, hO.trans hO2⟩

theorem rtext_at (w : World) (p : Nat) (r : Pk.RD) (h : ReaderAt w p r) (L : Nat) (hL : L ≤ 9223372036854775807) :
    Calls Try.prog 66 #[.pointer (some ⟨p, 0, none⟩), .int .i64 (L : Int)] w fun e w' => e = .returned (.string (textOf (r.text L).1)) ∧ ReaderAt w' p (r.text L).2 ∧ Only (fun k => k = p) w w' := by
  go_enter Try.func66, Try.ntmps66
  go_wp2_with fail
  refine (rup_at w p r h L hL).mono ?_
  rintro e w1 ⟨rfl, hR, hO⟩
  have ht : r.text L = if (r.up L).1 ≤ (r.up L).2.s.length then ((r.up L).2.s.take (r.up L).1, ⟨(r.up L).2.s.drop (r.up L).1, (r.up L).2.bad⟩) else ([], ⟨[], true⟩) := rfl
  have HT := Lib.hid ht
  clear ht
  generalize (r.up L).1 = n at HT ⊢
  generalize (r.up L).2 = q at HT hR
  obtain ⟨s, bad⟩ := q
  obtain ⟨hb, hw, hl⟩ := hR
  simp only at hb hw hl HT
  have c0 := hb.cell 0
  have f0 := hb.free 0
  simp at c0
  have hsz : (textOf s).size = s.length := textOf_size s
  by_cases hle : n ≤ s.length
  · have ht := HT.out
    rw [if_pos hle] at ht
    have HT2 := Lib.hid ht
    have hd : decide ((s.length : Int) < (n : Int)) = false := by simp; omega
    have h1 : (textOf s).extract 0 n = textOf (s.take n) := by rw [textOf_extract hw]; rfl
    have h2 : (textOf s).extract n s.length = textOf (s.drop n) := by rw [textOf_extract hw, List.take_of_length_le (by rw [List.length_drop]; omega)]
    have H1 := Lib.hid h1
    have H2 := Lib.hid h2
    clear ht HT h1 h2
    go_wp2_with fail
    rw [H1.out, H2.out]
    go_ret
    refine ⟨by rw [HT2.out]; rfl, by rw [HT2.out]; exact ⟨hb.setCell 0 _, fun c hc => hw c (List.mem_of_mem_drop hc), by simp only [List.length_drop]; omega⟩, hO.setCell (p := ⟨p, 0, none⟩) (fun _ => rfl) _⟩
  · have ht := HT.out
    rw [if_neg hle] at ht
    have HT2 := Lib.hid ht
    have hd : decide ((s.length : Int) < (n : Int)) = true := by simp; omega
    clear ht HT
    go_wp2_with fail
    refine (rfail_at w1 p _ _ hb).mono ?_
    rintro e w2 ⟨rfl, hR2, hO2⟩
    go_wp2_with fail
    go_ret
    exact ⟨by rw [HT2.out]; rfl, by rw [HT2.out]; exact hR2, hO.trans hO2⟩

theorem rleft_at (w : World) (p : Nat) (r : Pk.RD) (h : ReaderAt w p r) :
    Calls Try.prog 86 #[.pointer (some ⟨p, 0, none⟩)] w fun e w' => e = .returned (.tuple #[.int .i64 r.s.length, .bool (!r.bad)]) ∧ ∃ q, w' = w.drewN q := by
  obtain ⟨hb, hw, hl⟩ := h
  have c0 := hb.cell 0
  have c1 := hb.cell 1
  simp at c0 c1
  have hsz : (textOf r.s).size = r.s.length := textOf_size _
  go_enter Try.func86, Try.ntmps86
  go_wp2_with fail
  go_quiet (fail)
  go_wp2_with fail
  go_ret2
  exact ⟨rfl, _, rfl⟩

theorem rdone_at (w : World) (p : Nat) (r : Pk.RD) (h : ReaderAt w p r) :
    Calls Try.prog 65 #[.pointer (some ⟨p, 0, none⟩)] w fun e w' => e = .returned (.bool r.done) ∧ ∃ q, w' = w.drewN q := by
  have hl := h.2.2
  go_enter Try.func65, Try.ntmps65
  go_wp2_with fail
  refine (rleft_at w p r h).mono ?_
  rintro e w1 ⟨rfl, q, rfl⟩
  obtain ⟨s, bad⟩ := r
  simp only at hl ⊢
  cases s with
  | nil =>
    go_wp2_with fail
    go_ret
    exact ⟨rfl, _, rfl⟩
  | cons c t =>
    have hd : (((c :: t).length : Int) == 0) = false := by simp; omega
    generalize hn : (c :: t).length = n at hd hl ⊢
    clear hn
    go_wp2_with fail
    go_ret
    exact ⟨rfl, _, rfl⟩

end Go.Proofs.Ytekmjhenhgmpgaa

/- The document's numbers and texts, and its reader: what they answer is what the plain lists say. -/
namespace Go.Proofs.Ytekmjhenhgmpgaa
open Go.RowKit
set_option maxRecDepth 100000

theorem byte_in (w : World) (c : Int) (h0 : 0 ≤ c) (h1 : c ≤ 255) (t : TypeId) : BytesIn (w.alloc (.cells #[.int .u8 c] t)) (some ⟨w.heap.size, 0, none⟩) [c] :=
  ⟨by simpa using ⟨h0, h1⟩, by unfold maxLen; simp, fun i hi => ⟨w.heap.size, 0, rfl, by
    have : i = 0 := by simp at hi; omega
    subst this
    exact cell_byte w c t _ rfl⟩⟩

set_option maxHeartbeats 2000000 in
theorem dnum_at (w : World) (x : Nat) (hx : x < 18446744073709551616) :
    Calls Try.prog 77 #[.int .u64 x] w fun e w' => e = .returned (.string (textOf (Pk.num x))) ∧ Only NoBlock w w' := by
  have h8 := Pk.size_le8 hx
  go_enter Try.func77, Try.ntmps77
  go_wp2_with fail
  go_loopw [0, 3, 4] (fun v0 v3 v4 wr => ∃ (k y : Nat), v0 = .int .u64 y ∧ v3 = .string (textOf (Pk.be k x)) ∧ v4 = .int .i64 k ∧ y < 18446744073709551616 ∧ k + Pk.size y = Pk.size x ∧ RowKit.Hid (y = x / 256 ^ k) ∧ Only NoBlock w wr) (fun v0 _ _ _ => (intOf v0).toNat)
  case atStart => exact ⟨0, x, rfl, rfl, rfl, hx, by omega, Lib.hid (by simp), Only.refl _ _⟩
  case round =>
    obtain ⟨k, y, rfl, rfl, rfl, hy, hk, HY, ho⟩ := hrel
    by_cases h0 : 0 < y
    · have hsp := Pk.size_pos h0
      have hbe : Pk.be (k + 1) x = ((y % 256 : Nat) : Int) :: Pk.be k x := by rw [Pk.be_snoc_high, HY.out]
      have HB := Lib.hid hbe
      clear hbe
      have hm0 : (0 : Int) ≤ (y : Int) % 256 := by omega
      have hm1 : (y : Int) % 256 ≤ 255 := by omega
      have hln : (textOf (Pk.be k x)).size ≤ 8 := by rw [textOf_size, Pk.be_length]; omega
      have hl1 : (textOf [(y : Int) % 256]).size ≤ 1 := by rw [textOf_size]; simp
      go_wp2_with (first
        | (refine wpList_conv_text _ rfl _ _ rfl Cv.u_string Cv.u_byte (some ⟨wr.heap.size, 0, none⟩) 1 1 [(y : Int) % 256] ?_ rfl (byte_in _ _ hm0 hm1 _) ?_; (rfl)))
      have e : ((y : Int) / 256) = ((y / 256 : Nat) : Int) := by omega
      refine ⟨⟨k + 1, y / 256, by rw [e], ?_, by go_num, by omega, by omega, Lib.hid ?_, ho.alloc _⟩, by simp [intOf]; omega⟩
      · rw [HB.out, ← textOf_append]
        have e2 : ((y : Int) % 256) = ((y % 256 : Nat) : Int) := by omega
        rw [e2]
        rfl
      · rw [HY.out, Nat.pow_succ, Nat.div_div_eq_div_mul]
    · obtain rfl : y = 0 := by omega
      have hz := Pk.size_zero
      have hk' : k = Pk.size x := by omega
      have hn : Pk.num x = (k : Int) :: Pk.be k x := by unfold Pk.num; rw [hk']
      have HN := Lib.hid hn
      have hk8 : k ≤ 8 := by omega
      clear hn hk' hz hk h0 h8
      have hln : (textOf (Pk.be k x)).size ≤ 8 := by rw [textOf_size, Pk.be_length]; omega
      have hl1 : (textOf [(k : Int)]).size ≤ 1 := by rw [textOf_size]; simp
      go_wp2_with (first
        | (refine wpList_conv_text _ rfl _ _ rfl Cv.u_string Cv.u_byte (some ⟨wr.heap.size, 0, none⟩) 1 1 [(k : Int)] ?_ rfl (byte_in _ _ (by omega) (by omega) _) ?_; (rfl)))
      go_ret
      exact ⟨by rw [HN.out]; exact congrArg (fun t => Ending.returned (Value.string t)) (textOf_append [(k : Int)] (Pk.be k x)).symm, ho.alloc _⟩

theorem dtext_at (w : World) (t : ByteArray) (ht : t.size ≤ 1000000000000) :
    Calls Try.prog 78 #[.string t] w fun e w' => e = .returned (.string (textOf (Pk.text (nums t)))) ∧ Only NoBlock w w' := by
  have hn : textOf (Pk.text (nums t)) = textOf (Pk.num t.size) ++ t := by unfold Pk.text; rw [textOf_append, textOf_nums, nums_length]
  have HN := Lib.hid hn
  clear hn
  have h8 := Pk.size_le8 (x := t.size) (by omega)
  have hsz : (textOf (Pk.num t.size)).size ≤ 9 := by rw [textOf_size, Pk.num_length]; omega
  go_enter Try.func78, Try.ntmps78
  go_wp2_with fail
  refine (dnum_at w t.size (by omega)).mono ?_
  rintro e w1 ⟨rfl, ho⟩
  go_wp2_with fail
  go_ret
  exact ⟨by rw [HN.out]; rfl, ho⟩

/-- block p is the document's reader -/
def DReaderAt (w : World) (p : Nat) (r : Pk.RD) : Prop := Blk w p #[.string (textOf r.s), .bool r.bad] 145 ∧ (∀ c ∈ r.s, 0 ≤ c ∧ c ≤ 255) ∧ r.s.length ≤ 1000000000000

theorem dfail_at (w : World) (p : Nat) (s : ByteArray) (b : Bool) (h : Blk w p #[.string s, .bool b] 145) :
    Calls Try.prog 92 #[.pointer (some ⟨p, 0, none⟩)] w fun e w' => e = .returned (.tuple #[]) ∧ DReaderAt w' p ⟨[], true⟩ ∧ Only (fun k => k = p) w w' := by
  have c0 := h.cell 0
  have c1 := h.cell 1
  have f0 := h.free 0
  have f1 := h.free 1
  simp at c0 c1
  go_enter Try.func92, Try.ntmps92
  go_wp2_with fail
  go_end0
  refine ⟨rfl, ⟨?_, by simp, by simp⟩, ?_⟩
  · exact (h.setCell 0 _).setCell 1 _
  · exact ((Only.refl (fun k => k = p) w).setCell (p := ⟨p, 0, none⟩) (fun _ => rfl) _).setCell (p := ⟨p, 1, none⟩) (fun _ => rfl) _


set_option maxHeartbeats 2000000 in
theorem dnumr_at (w : World) (p : Nat) (r : Pk.RD) (h : DReaderAt w p r) :
    Calls Try.prog 79 #[.pointer (some ⟨p, 0, none⟩)] w fun e w' => e = .returned (.int .u64 (Pk.numV r.s : Nat)) ∧ DReaderAt w' p (Pk.numR r) ∧ Only (fun k => k = p) w w' := by
  obtain ⟨hb, hw, hl⟩ := h
  obtain ⟨s, bad⟩ := r
  simp only at hb hw hl ⊢
  have c0 := hb.cell 0
  have c1 := hb.cell 1
  have f0 := hb.free 0
  simp at c0 c1
  cases s with
  | nil =>
    have HV := Lib.hid (Pk.numV_no (s := []) rfl)
    have HR := Lib.hid (Pk.numR_no (r := ⟨[], bad⟩) rfl)
    rw [textOf_nil] at c0 hb
    go_enter Try.func79, Try.ntmps79
    go_wp2_with fail
    refine (dfail_at w p _ _ hb).mono ?_
    rintro e w1 ⟨rfl, hR, hO⟩
    go_wp2_with fail
    go_ret
    exact ⟨by rw [HV.out]; rfl, by rw [HR.out]; exact hR, hO⟩
  | cons n t =>
    have hsz : (textOf (n :: t)).size = t.length + 1 := by rw [textOf_size]; rfl
    have hg0 := textOf_get hw (i := 0) (by omega)
    rw [List.getD_cons_zero] at hg0
    obtain ⟨hn0, hn1⟩ := hw n (by simp)
    have hl1 : t.length ≤ 1000000000000 := by rw [List.length_cons] at hl; omega
    have hwt : wrap64 (t.length : Int) = (t.length : Int) := by unfold wrap64; omega
    have hne : ((textOf (n :: t)).toList == []) = false := by
      have : (textOf (n :: t)).toList ≠ (⟨#[]⟩ : ByteArray).toList := Pk.ba_list (by intro e; have := congrArg ByteArray.size e; have h0 : (⟨#[]⟩ : ByteArray).size = 0 := rfl; omega)
      simpa using this
    go_enter Try.func79, Try.ntmps79
    go_upto_region 4 with fail
    clear hg0 hne
    by_cases h8 : 8 < n
    · have hno : Pk.okNum (n :: t) = false := by unfold Pk.okNum; simp [h8]
      have hd8 : decide ((8 : Int) < n) = true := by simpa using h8
      clear h8
      have HV := Lib.hid (Pk.numV_no hno)
      have HR := Lib.hid (Pk.numR_no (r := ⟨n :: t, bad⟩) hno)
      clear hno
      go_wp2_with fail
      refine (dfail_at w p _ _ hb).mono ?_
      rintro e w1 ⟨rfl, hR, hO⟩
      go_wp2_with fail
      go_ret
      exact ⟨by rw [HV.out]; rfl, by rw [HR.out]; exact hR, hO⟩
    have hd8 : decide ((8 : Int) < n) = false := by simpa using h8
    by_cases hlt : (t.length : Int) < n
    · have hno : Pk.okNum (n :: t) = false := by unfold Pk.okNum; simp [hlt]
      have hd9 : decide ((t.length : Int) < n) = true := by simpa using hlt
      clear hlt h8
      have HV := Lib.hid (Pk.numV_no hno)
      have HR := Lib.hid (Pk.numR_no (r := ⟨n :: t, bad⟩) hno)
      clear hno
      go_wp2_with fail
      refine (dfail_at w p _ _ hb).mono ?_
      rintro e w1 ⟨rfl, hR, hO⟩
      go_wp2_with fail
      go_ret
      exact ⟨by rw [HV.out]; rfl, by rw [HR.out]; exact hR, hO⟩
    have hd9 : decide ((t.length : Int) < n) = false := by simpa using hlt
    obtain ⟨m, rfl⟩ : ∃ m : Nat, n = (m : Int) := ⟨n.toNat, by omega⟩
    have hm8 : m ≤ 8 := by omega
    have hmt : m ≤ t.length := by omega
    clear h8 hlt
    by_cases hz : 0 < m ∧ t.getD 0 0 = 0
    · have hno : Pk.okNum ((m : Int) :: t) = false := by
        unfold Pk.okNum
        have h1 := hz.1
        have h2 := hz.2
        simp only [Bool.not_eq_false', Bool.or_eq_true, Bool.and_eq_true, decide_eq_true_eq]
        exact .inr ⟨by omega, h2⟩
      have hs1 : 1 < (textOf ((m : Int) :: t)).size := by omega
      have hg1 := textOf_get hw hs1
      rw [List.getD_cons_succ, hz.2] at hg1
      have hm0 := hz.1
      have hd0 : decide ((0 : Int) < (m : Int)) = true := by simpa using hm0
      clear hz
      have HV := Lib.hid (Pk.numV_no hno)
      have HR := Lib.hid (Pk.numR_no (r := ⟨(m : Int) :: t, bad⟩) hno)
      clear hno
      go_wp2_with fail
      refine (dfail_at w p _ _ hb).mono ?_
      rintro e w1 ⟨rfl, hR, hO⟩
      go_wp2_with fail
      go_ret
      exact ⟨by rw [HV.out]; rfl, by rw [HR.out]; exact hR, hO⟩
    have hok : Pk.okNum ((m : Int) :: t) = true := by
      unfold Pk.okNum
      simp only [Bool.not_eq_true', Bool.or_eq_false_iff, Bool.and_eq_false_iff, decide_eq_false_iff_not]
      refine ⟨⟨by omega, by omega⟩, ?_⟩
      by_cases h : 0 < m
      · exact .inr (fun e => hz ⟨h, e⟩)
      · exact .inl (by omega)
    have hV : Pk.numV ((m : Int) :: t) = Pk.val (t.take m) := by unfold Pk.numV; rw [if_pos hok]; rfl
    have hR : Pk.numR ⟨(m : Int) :: t, bad⟩ = ⟨t.drop m, bad⟩ := by unfold Pk.numR; simp only; rw [if_pos hok]; rfl
    have HV := Lib.hid hV
    have HR := Lib.hid hR
    clear hok hV hR
    by_cases hm0 : 0 < m
    · have hs1 : 1 < (textOf ((m : Int) :: t)).size := by omega
      have hg1 := textOf_get hw hs1
      rw [List.getD_cons_succ] at hg1
      have hzz : (t.getD 0 0 == 0) = false := by
        have : t.getD 0 0 ≠ 0 := fun e => hz ⟨hm0, e⟩
        simpa using this
      generalize t.getD 0 0 = c at hg1 hzz
      have hd0 : decide ((0 : Int) < (m : Int)) = true := by simpa using hm0
      go_upto_region 9 with fail
      clear hg1 hzz hz hm0 hd0 hd8 hd9
      go_loop [4, 5] (fun v4 v5 => ∃ j : Nat, j ≤ m ∧ v5 = .int .i64 ((j : Int) + 1) ∧ v4 = .int .u64 (Pk.val (t.take j) : Nat)) (fun _ v5 => m + 1 - (intOf v5).toNat)
      case atStart => exact ⟨0, by omega, rfl, rfl⟩
      case round =>
        obtain ⟨j, hj, rfl, rfl⟩ := hrel
        by_cases hjm : j < m
        · have hjs : j + 1 < (textOf ((m : Int) :: t)).size := by omega
          have hgj := textOf_get hw hjs
          rw [List.getD_cons_succ] at hgj
          have htk : Pk.val (t.take (j + 1)) = 256 * Pk.val (t.take j) + (t.getD j 0).toNat := by
            rw [List.take_add_one, List.getElem?_eq_getElem (by omega), List.getD_eq_getElem?_getD, List.getElem?_eq_getElem (by omega)]
            exact Pk.val_snoc _ _
          have hcb := hw (t.getD j 0) (by
            rw [List.getD_eq_getElem?_getD, List.getElem?_eq_getElem (by omega)]
            exact List.mem_cons_of_mem _ (List.getElem_mem _))
          have hvl := Pk.val_lt (t.take j) (fun c hc => hw c (List.mem_cons_of_mem _ (List.mem_of_mem_take hc)))
          have hvb : Pk.val (t.take j) < 72057594037927936 := by
            refine Nat.lt_of_lt_of_le hvl ?_
            have : (t.take j).length ≤ 7 := by rw [List.length_take]; omega
            exact Nat.le_trans (Nat.pow_le_pow_right (by decide) this) (by decide)
          have HT := Lib.hid htk
          clear htk hvl
          generalize t.getD j 0 = c at hgj hcb HT
          generalize Pk.val (t.take j) = x at hvb HT ⊢
          obtain ⟨hc0, hc1⟩ := hcb
          go_wp2_with fail
          exact ⟨⟨j + 1, by omega, by congr 1, by rw [HT.out]; congr 1; omega⟩, by simp [intOf]; omega⟩
        · obtain rfl : j = m := by omega
          have hdl : (t.drop j).length = t.length - j := List.length_drop
          have hex : (textOf ((j : Int) :: t)).extract (j + 1) (t.length + 1) = textOf (t.drop j) := by
            rw [textOf_extract hw, List.drop_succ_cons, List.take_of_length_le (by omega)]
          have HEX := Lib.hid hex
          clear hex hdl
          go_wp2_with fail
          rw [HEX.out]
          go_ret
          refine ⟨by rw [HV.out]; rfl, by rw [HR.out]; exact ⟨hb.setCell 0 _, fun c hc => hw c (List.mem_cons_of_mem _ (List.mem_of_mem_drop hc)), by simp only [List.length_drop]; omega⟩, (Only.refl (fun k => k = p) w).setCell (p := ⟨p, 0, none⟩) (fun _ => rfl) _⟩
    · have hd0 : decide ((0 : Int) < (m : Int)) = false := by simp; omega
      go_upto_region 9 with fail
      clear hz hm0 hd0 hd8 hd9
      go_loop [4, 5] (fun v4 v5 => ∃ j : Nat, j ≤ m ∧ v5 = .int .i64 ((j : Int) + 1) ∧ v4 = .int .u64 (Pk.val (t.take j) : Nat)) (fun _ v5 => m + 1 - (intOf v5).toNat)
      case atStart => exact ⟨0, by omega, rfl, rfl⟩
      case round =>
        obtain ⟨j, hj, rfl, rfl⟩ := hrel
        by_cases hjm : j < m
        · have hjs : j + 1 < (textOf ((m : Int) :: t)).size := by omega
          have hgj := textOf_get hw hjs
          rw [List.getD_cons_succ] at hgj
          have htk : Pk.val (t.take (j + 1)) = 256 * Pk.val (t.take j) + (t.getD j 0).toNat := by
            rw [List.take_add_one, List.getElem?_eq_getElem (by omega), List.getD_eq_getElem?_getD, List.getElem?_eq_getElem (by omega)]
            exact Pk.val_snoc _ _
          have hcb := hw (t.getD j 0) (by
            rw [List.getD_eq_getElem?_getD, List.getElem?_eq_getElem (by omega)]
            exact List.mem_cons_of_mem _ (List.getElem_mem _))
          have hvl := Pk.val_lt (t.take j) (fun c hc => hw c (List.mem_cons_of_mem _ (List.mem_of_mem_take hc)))
          have hvb : Pk.val (t.take j) < 72057594037927936 := by
            refine Nat.lt_of_lt_of_le hvl ?_
            have : (t.take j).length ≤ 7 := by rw [List.length_take]; omega
            exact Nat.le_trans (Nat.pow_le_pow_right (by decide) this) (by decide)
          have HT := Lib.hid htk
          clear htk hvl
          generalize t.getD j 0 = c at hgj hcb HT
          generalize Pk.val (t.take j) = x at hvb HT ⊢
          obtain ⟨hc0, hc1⟩ := hcb
          go_wp2_with fail
          exact ⟨⟨j + 1, by omega, by congr 1, by rw [HT.out]; congr 1; omega⟩, by simp [intOf]; omega⟩
        · obtain rfl : j = m := by omega
          have hdl : (t.drop j).length = t.length - j := List.length_drop
          have hex : (textOf ((j : Int) :: t)).extract (j + 1) (t.length + 1) = textOf (t.drop j) := by
            rw [textOf_extract hw, List.drop_succ_cons, List.take_of_length_le (by omega)]
          have HEX := Lib.hid hex
          clear hex hdl
          go_wp2_with fail
          rw [HEX.out]
          go_ret
          refine ⟨by rw [HV.out]; rfl, by rw [HR.out]; exact ⟨hb.setCell 0 _, fun c hc => hw c (List.mem_cons_of_mem _ (List.mem_of_mem_drop hc)), by simp only [List.length_drop]; omega⟩, (Only.refl (fun k => k = p) w).setCell (p := ⟨p, 0, none⟩) (fun _ => rfl) _⟩



theorem dup_at (w : World) (p : Nat) (r : Pk.RD) (h : DReaderAt w p r) (L : Nat) (hL : L ≤ 9223372036854775807) :
    Calls Try.prog 80 #[.pointer (some ⟨p, 0, none⟩), .int .i64 (L : Int)] w fun e w' => e = .returned (.int .i64 ((r.up L).1 : Nat)) ∧ DReaderAt w' p (r.up L).2 ∧ Only (fun k => k = p) w w' := by
  have hlt := Pk.numV_lt h.2.1
  go_enter Try.func80, Try.ntmps80
  go_wp2_with fail
  refine (dnumr_at w p r h).mono ?_
  rintro e w1 ⟨rfl, hR, hO⟩
  by_cases hle : Pk.numV r.s ≤ L
  · have hu : r.up L = (Pk.numV r.s, Pk.numR r) := by unfold Pk.RD.up; rw [if_pos hle]
    have HU := Lib.hid hu
    clear hu
    generalize Pk.numV r.s = x at hlt hle HU ⊢
    have hd : decide ((L : Int) < (x : Int)) = false := by simp; omega
    have hl0 : ¬ (L : Int) < 0 := by omega
    go_wp2_with fail
    go_ret
    exact ⟨by rw [HU.out]; rfl, by rw [HU.out]; exact hR, hO⟩
  · have hu : r.up L = (0, ⟨[], true⟩) := by unfold Pk.RD.up; rw [if_neg hle]
    have HU := Lib.hid hu
    clear hu
    generalize Pk.numV r.s = x at hlt hle HU ⊢
    have hd : decide ((L : Int) < (x : Int)) = true := by simp; omega
    have hl0 : ¬ (L : Int) < 0 := by omega
    go_wp2_with fail
    refine (dfail_at w1 p _ _ hR.1).mono ?_
    rintro e w2 ⟨rfl, hR2, hO2⟩
    go_wp2_with fail
    go_ret
    exact ⟨by rw [HU.out]; rfl, by rw [HU.out]; exact hR2, hO.trans hO2⟩

theorem dtextr_at (w : World) (p : Nat) (r : Pk.RD) (h : DReaderAt w p r) (L : Nat) (hL : L ≤ 9223372036854775807) :
    Calls Try.prog 81 #[.pointer (some ⟨p, 0, none⟩), .int .i64 (L : Int)] w fun e w' => e = .returned (.string (textOf (r.text L).1)) ∧ DReaderAt w' p (r.text L).2 ∧ Only (fun k => k = p) w w' := by
  go_enter Try.func81, Try.ntmps81
  go_wp2_with fail
  refine (dup_at w p r h L hL).mono ?_
  rintro e w1 ⟨rfl, hR, hO⟩
  have ht : r.text L = if (r.up L).1 ≤ (r.up L).2.s.length then ((r.up L).2.s.take (r.up L).1, ⟨(r.up L).2.s.drop (r.up L).1, (r.up L).2.bad⟩) else ([], ⟨[], true⟩) := rfl
  have HT := Lib.hid ht
  clear ht
  generalize (r.up L).1 = n at HT ⊢
  generalize (r.up L).2 = q at HT hR
  obtain ⟨s, bad⟩ := q
  obtain ⟨hb, hw, hl⟩ := hR
  simp only at hb hw hl HT
  have c0 := hb.cell 0
  have f0 := hb.free 0
  simp at c0
  have hsz : (textOf s).size = s.length := textOf_size s
  by_cases hle : n ≤ s.length
  · have ht := HT.out
    rw [if_pos hle] at ht
    have HT2 := Lib.hid ht
    have hd : decide ((s.length : Int) < (n : Int)) = false := by simp; omega
    have h1 : (textOf s).extract 0 n = textOf (s.take n) := by rw [textOf_extract hw]; rfl
    have h2 : (textOf s).extract n s.length = textOf (s.drop n) := by rw [textOf_extract hw, List.take_of_length_le (by rw [List.length_drop]; omega)]
    have H1 := Lib.hid h1
    have H2 := Lib.hid h2
    clear ht HT h1 h2
    go_wp2_with fail
    rw [H1.out, H2.out]
    go_ret
    refine ⟨by rw [HT2.out]; rfl, by rw [HT2.out]; exact ⟨hb.setCell 0 _, fun c hc => hw c (List.mem_of_mem_drop hc), by simp only [List.length_drop]; omega⟩, hO.setCell (p := ⟨p, 0, none⟩) (fun _ => rfl) _⟩
  · have ht := HT.out
    rw [if_neg hle] at ht
    have HT2 := Lib.hid ht
    have hd : decide ((s.length : Int) < (n : Int)) = true := by simp; omega
    clear ht HT
    go_wp2_with fail
    refine (dfail_at w1 p _ _ hb).mono ?_
    rintro e w2 ⟨rfl, hR2, hO2⟩
    go_wp2_with fail
    go_ret
    exact ⟨by rw [HT2.out]; rfl, by rw [HT2.out]; exact hR2, hO.trans hO2⟩



end Go.Proofs.Ytekmjhenhgmpgaa

/- The store's records: what the program writes for a vote, an entry, a cut, a snapshot. -/
namespace Go.Proofs.Ytekmjhenhgmpgaa
open Go.RowKit
set_option maxRecDepth 100000

/-- a vote, a snapshot -/
structure Hrd where
  term : Nat
  vote : Int
structure Snp where
  index : Nat
  term : Nat
  config : Nat
  data : ByteArray
structure Hrd.Wf (h : Hrd) : Prop where
  term : h.term < 18446744073709551616
  vote : (Lit.int .i64 h.vote).wf = true
structure Snp.Wf (s : Snp) : Prop where
  index : s.index < 18446744073709551616
  term : s.term < 18446744073709551616
  config : s.config < 18446744073709551616
  data : s.data.size ≤ 140737488351232
def Hrd.val (h : Hrd) : Value := .agg #[.int .u64 h.term, .int .i64 h.vote]
def Snp.val (s : Snp) : Value := .agg #[.int .u64 s.index, .int .u64 s.term, .int .u64 s.config, .string s.data]

/-- an int as a number of 64 bits -/
def u64 (x : Int) : Nat := (x % 18446744073709551616).toNat
theorem u64_lt (x : Int) : u64 x < 18446744073709551616 := by unfold u64; omega
namespace Rc
def hard (h : Hrd) : List Int := Pk.num 1 ++ Pk.num h.term ++ Pk.num (u64 (h.vote + 1))
def entry (e : Ent) : List Int := Pk.num 2 ++ Pk.num e.term ++ Pk.num e.index ++ Pk.num (u64 e.kind) ++ Pk.text (nums e.data)
def cut (i : Nat) : List Int := Pk.num 3 ++ Pk.num i
def snap (s : Snp) : List Int := Pk.num 4 ++ Pk.num s.index ++ Pk.num s.term ++ Pk.num s.config ++ Pk.text (nums s.data)
end Rc

theorem WriterAt.new (w : World) : WriterAt (w.alloc (.cells #[.slice none 0 0] 139)) w.heap.size w.heap.size [] :=
  ⟨Nat.le_refl _, _, Blk.made w _ _, Bts.nil _ _⟩
theorem num_len {x : Nat} (h : x < 18446744073709551616) : (Pk.num x).length ≤ 9 := by rw [Pk.num_length]; have := Pk.size_le8 h; omega

theorem cutrec_at (w : World) (i : Nat) (hi : i < 18446744073709551616) :
    Calls Try.prog 47 #[.int .u64 i] w fun e w' => e = .returned (.string (textOf (Rc.cut i))) ∧ Only NoBlock w w' := by
  go_enter Try.func47, Try.ntmps47
  go_wp2_with fail
  refine (wnum_at _ _ _ [] (WriterAt.new w) 3 (by omega) (by simp)).mono ?_
  rintro e w1 ⟨rfl, hW1, hO1⟩
  go_wp2_with fail
  refine (wnum_at w1 _ _ _ hW1 i hi (by have := num_len (x := 3) (by omega); rw [List.nil_append]; omega)).mono ?_
  rintro e w2 ⟨rfl, hW2, hO2⟩
  go_wp2_with fail
  refine (wbytes_at w2 _ _ _ hW2 ?_).mono ?_
  · intro c hc
    simp only [List.nil_append, List.mem_append] at hc
    rcases hc with hc | hc
    · exact Pk.num_byte (by omega) c hc
    · exact Pk.num_byte hi c hc
  rintro e w3 ⟨rfl, rfl⟩
  go_wp2_with fail
  go_ret
  exact ⟨rfl, ((Only.refl NoBlock w).alloc _).andThen (hO1.trans hO2) (fun k hk h => by have h' : w.heap.size ≤ k := h; omega)⟩

theorem u64_of {x : Int} (h0 : 0 ≤ x) (h1 : x < 18446744073709551616) : ((u64 x : Nat) : Int) = x := by unfold u64; omega

theorem keep5 {w w' : World} {base b off : Nat} {v : Value} (ho : Only (fun k => base ≤ k) w w') (hb : b < base) (h : w.cell? ⟨b, off, none⟩ = some v) : w'.cell? ⟨b, off, none⟩ = some v := by
  have hlt := World.block_lt_of_cell? w _ h
  have := ho.block b hlt (fun e => by have e' : base ≤ b := e; omega)
  rw [← h]
  simp [World.cell?, this]
theorem Rc.hard_byte' {term : Nat} {vote : Int} (ht : term < 18446744073709551616) : ∀ c ∈ [] ++ Pk.num 1 ++ Pk.num term ++ Pk.num (u64 (vote + 1)), 0 ≤ c ∧ c ≤ 255 := by
  intro c hc
  simp only [List.nil_append, List.mem_append] at hc
  rcases hc with (hc | hc) | hc
  · exact Pk.num_byte (by omega) c hc
  · exact Pk.num_byte ht c hc
  · exact Pk.num_byte (u64_lt _) c hc
theorem u64_conv (vote : Int) (hv0 : -9223372036854775808 ≤ vote) (hv1 : vote ≤ 9223372036854775807) : IntKind.u64.wrap (IntKind.i64.wrap (vote + 1)) = ((u64 (vote + 1) : Nat) : Int) := by
  unfold u64
  rw [IntKind.wrap_u64]
  by_cases h : vote = 9223372036854775807
  · subst h; decide
  · rw [IntWalk.i64_in _ (by omega)]; omega

set_option maxHeartbeats 400000 in
theorem hardrec_at (w : World) (term : Nat) (vote : Int) (ht : term < 18446744073709551616) (hv0 : -9223372036854775808 ≤ vote) (hv1 : vote ≤ 9223372036854775807) :
    Calls Try.prog 45 #[.agg #[.int .u64 term, .int .i64 vote]] w fun e w' => e = .returned (.string (textOf (Rc.hard ⟨term, vote⟩))) ∧ Only NoBlock w w' := by
  go_enter Try.func45, Try.ntmps45
  go_wp2_with fail
  have hbx := Blk.made w #[.int .u64 term, .int .i64 vote] 37
  have hn := (Only.refl NoBlock w).alloc (Obj.cells #[.int .u64 term, .int .i64 vote] 37)
  have hsz : (w.alloc (Obj.cells #[.int .u64 term, .int .i64 vote] 37)).heap.size = w.heap.size + 1 := by simp
  generalize w.alloc (Obj.cells #[.int .u64 term, .int .i64 vote] 37) = w1 at hbx hn hsz ⊢
  have b0 : w1.cell? ⟨w.heap.size, 0, none⟩ = some (.int .u64 term) := by rw [hbx.cell]; rfl
  have b1 : w1.cell? ⟨w.heap.size, 1, none⟩ = some (.int .i64 vote) := by rw [hbx.cell]; rfl
  have hconv := u64_conv vote hv0 hv1
  have hV0 : WriterAt (w1.drew.alloc (.cells #[.slice none 0 0] 139)) (w.heap.size + 1) (w.heap.size + 1) [] := by rw [← hsz]; exact WriterAt.new w1.drew
  have hA : Only NoBlock w1 (w1.drew.alloc (.cells #[.slice none 0 0] 139)) := ((Only.refl NoBlock w1).drew).alloc _
  have q0_0 : (w1.drew.alloc (.cells #[.slice none 0 0] 139)).cell? ⟨w.heap.size, 0, none⟩ = some (.int .u64 term) := by rw [(hbx.keeps hA (fun h => h)).cell]; rfl
  have q0_1 : (w1.drew.alloc (.cells #[.slice none 0 0] 139)).cell? ⟨w.heap.size, 1, none⟩ = some (.int .i64 vote) := by rw [(hbx.keeps hA (fun h => h)).cell]; rfl
  have s0 := Pk.size_le8 (x := 1) (by omega)
  have s1 := Pk.size_le8 (x := term) ht
  have s2 := Pk.size_le8 (x := (u64 (vote + 1))) (u64_lt _)
  have hbyte : ∀ c ∈ [] ++ Pk.num 1 ++ Pk.num term ++ Pk.num (u64 (vote + 1)), 0 ≤ c ∧ c ≤ 255 := by
    intro c hc
    simp only [List.nil_append, List.mem_append, Pk.text] at hc
    rcases hc with (hc | hc) | hc
    · exact Pk.num_byte (by omega) c hc
    · exact Pk.num_byte ht c hc
    · exact Pk.num_byte (u64_lt _) c hc
  have heq : textOf (Pk.num 1 ++ (Pk.num term ++ Pk.num (u64 (vote + 1)))) = textOf (Rc.hard ⟨term, vote⟩) := by unfold Rc.hard; simp only [List.append_assoc]
  have HEQ := Lib.hid heq
  clear heq
  go_region_held3 (fun w' => w'.cell? ⟨w.heap.size, 0, none⟩ = some (.int .u64 term) ∧ w'.cell? ⟨w.heap.size, 1, none⟩ = some (.int .i64 vote))
    (first | exact ⟨b0, b1⟩ | exact ⟨by assumption, by assumption⟩ | go_keep)
    (first
      | (go_at_call 72; refine (wnum_at _ _ _ _ hV2 (u64 (vote + 1)) (u64_lt _) (by simp [Pk.num_length]; omega)).mono ?_; rintro e w4 ⟨rfl, hV3, hP3⟩; clear hV2; have q3_0 := keep5 hP3 (by omega) q2_0; have q3_1 := keep5 hP3 (by omega) q2_1)
      | (go_at_call 72; refine (wnum_at _ _ _ _ hV1 term ht (by simp [Pk.num_length]; omega)).mono ?_; rintro e w3 ⟨rfl, hV2, hP2⟩; clear hV1; have q2_0 := keep5 hP2 (by omega) q1_0; have q2_1 := keep5 hP2 (by omega) q1_1)
      | (go_at_call 72; refine (wnum_at _ _ _ _ hV0 1 (by omega) (by simp [Pk.num_length])).mono ?_; rintro e w2 ⟨rfl, hV1, hP1⟩; clear hV0; have q1_0 := keep5 hP1 (by omega) q0_0; have q1_1 := keep5 hP1 (by omega) q0_1)
      | (go_at_call 73; refine (wbytes_at _ _ _ _ hV3 hbyte).mono ?_; rintro e w5 ⟨rfl, rfl⟩))
  go_wp2_with fail
  go_ret
  exact ⟨by rw [← HEQ.out]; rfl, (hn.trans hA).andThen (((hP1).trans hP2).trans hP3) (fun k hk h => by have h' : w.heap.size + 1 ≤ k := h; omega)⟩

set_option maxHeartbeats 400000 in
theorem entryrec_at (w : World) (term index : Nat) (kind : Int) (data : ByteArray) (ht : term < 18446744073709551616) (hi : index < 18446744073709551616) (hd : data.size ≤ 1000000000000) :
    Calls Try.prog 48 #[.agg #[.int .u64 term, .int .u64 index, .int .i64 kind, .string data]] w fun e w' => e = .returned (.string (textOf (Rc.entry ⟨term, index, kind, data⟩))) ∧ Only NoBlock w w' := by
  go_enter Try.func48, Try.ntmps48
  go_wp2_with fail
  have hbx := Blk.made w #[.int .u64 term, .int .u64 index, .int .i64 kind, .string data] 77
  have hn := (Only.refl NoBlock w).alloc (Obj.cells #[.int .u64 term, .int .u64 index, .int .i64 kind, .string data] 77)
  have hsz : (w.alloc (Obj.cells #[.int .u64 term, .int .u64 index, .int .i64 kind, .string data] 77)).heap.size = w.heap.size + 1 := by simp
  generalize w.alloc (Obj.cells #[.int .u64 term, .int .u64 index, .int .i64 kind, .string data] 77) = w1 at hbx hn hsz ⊢
  have b0 : w1.cell? ⟨w.heap.size, 0, none⟩ = some (.int .u64 term) := by rw [hbx.cell]; rfl
  have b1 : w1.cell? ⟨w.heap.size, 1, none⟩ = some (.int .u64 index) := by rw [hbx.cell]; rfl
  have b2 : w1.cell? ⟨w.heap.size, 2, none⟩ = some (.int .i64 kind) := by rw [hbx.cell]; rfl
  have b3 : w1.cell? ⟨w.heap.size, 3, none⟩ = some (.string data) := by rw [hbx.cell]; rfl
  have hconv : IntKind.u64.wrap kind = ((u64 kind : Nat) : Int) := by rw [IntKind.wrap_u64]; unfold u64; omega
  have hV0 : WriterAt (w1.drew.alloc (.cells #[.slice none 0 0] 139)) (w.heap.size + 1) (w.heap.size + 1) [] := by rw [← hsz]; exact WriterAt.new w1.drew
  have hA : Only NoBlock w1 (w1.drew.alloc (.cells #[.slice none 0 0] 139)) := ((Only.refl NoBlock w1).drew).alloc _
  have q0_0 : (w1.drew.alloc (.cells #[.slice none 0 0] 139)).cell? ⟨w.heap.size, 0, none⟩ = some (.int .u64 term) := by rw [(hbx.keeps hA (fun h => h)).cell]; rfl
  have q0_1 : (w1.drew.alloc (.cells #[.slice none 0 0] 139)).cell? ⟨w.heap.size, 1, none⟩ = some (.int .u64 index) := by rw [(hbx.keeps hA (fun h => h)).cell]; rfl
  have q0_2 : (w1.drew.alloc (.cells #[.slice none 0 0] 139)).cell? ⟨w.heap.size, 2, none⟩ = some (.int .i64 kind) := by rw [(hbx.keeps hA (fun h => h)).cell]; rfl
  have q0_3 : (w1.drew.alloc (.cells #[.slice none 0 0] 139)).cell? ⟨w.heap.size, 3, none⟩ = some (.string data) := by rw [(hbx.keeps hA (fun h => h)).cell]; rfl
  have s0 := Pk.size_le8 (x := 2) (by omega)
  have s1 := Pk.size_le8 (x := term) ht
  have s2 := Pk.size_le8 (x := index) hi
  have s3 := Pk.size_le8 (x := (u64 kind)) (u64_lt _)
  have hbyte : ∀ c ∈ [] ++ Pk.num 2 ++ Pk.num term ++ Pk.num index ++ Pk.num (u64 kind) ++ Pk.text (nums data), 0 ≤ c ∧ c ≤ 255 := by
    intro c hc
    simp only [List.nil_append, List.mem_append, Pk.text] at hc
    rcases hc with (((hc | hc) | hc) | hc) | (hc | hc)
    · exact Pk.num_byte (by omega) c hc
    · exact Pk.num_byte ht c hc
    · exact Pk.num_byte hi c hc
    · exact Pk.num_byte (u64_lt _) c hc
    · exact Pk.num_byte (by rw [nums_length]; omega) c hc
    · exact nums_byte _ c hc
  have heq : textOf (Pk.num 2 ++ (Pk.num term ++ (Pk.num index ++ (Pk.num (u64 kind) ++ Pk.text (nums data))))) = textOf (Rc.entry ⟨term, index, kind, data⟩) := by unfold Rc.entry; simp only [List.append_assoc]
  have HEQ := Lib.hid heq
  clear heq
  go_region_held3 (fun w' => w'.cell? ⟨w.heap.size, 0, none⟩ = some (.int .u64 term) ∧ w'.cell? ⟨w.heap.size, 1, none⟩ = some (.int .u64 index) ∧ w'.cell? ⟨w.heap.size, 2, none⟩ = some (.int .i64 kind) ∧ w'.cell? ⟨w.heap.size, 3, none⟩ = some (.string data))
    (first | exact ⟨b0, b1, b2, b3⟩ | exact ⟨by assumption, by assumption, by assumption, by assumption⟩ | go_keep)
    (first
      | (go_at_call 74; refine (wtext_at _ _ _ _ hV4 data hd (by simp [Pk.num_length]; omega)).mono ?_; rintro e w6 ⟨rfl, hV5, hP5⟩; clear hV4; have q5_0 := keep5 hP5 (by omega) q4_0; have q5_1 := keep5 hP5 (by omega) q4_1; have q5_2 := keep5 hP5 (by omega) q4_2; have q5_3 := keep5 hP5 (by omega) q4_3)
      | (go_at_call 72; refine (wnum_at _ _ _ _ hV3 (u64 kind) (u64_lt _) (by simp [Pk.num_length]; omega)).mono ?_; rintro e w5 ⟨rfl, hV4, hP4⟩; clear hV3; have q4_0 := keep5 hP4 (by omega) q3_0; have q4_1 := keep5 hP4 (by omega) q3_1; have q4_2 := keep5 hP4 (by omega) q3_2; have q4_3 := keep5 hP4 (by omega) q3_3)
      | (go_at_call 72; refine (wnum_at _ _ _ _ hV2 index hi (by simp [Pk.num_length]; omega)).mono ?_; rintro e w4 ⟨rfl, hV3, hP3⟩; clear hV2; have q3_0 := keep5 hP3 (by omega) q2_0; have q3_1 := keep5 hP3 (by omega) q2_1; have q3_2 := keep5 hP3 (by omega) q2_2; have q3_3 := keep5 hP3 (by omega) q2_3)
      | (go_at_call 72; refine (wnum_at _ _ _ _ hV1 term ht (by simp [Pk.num_length]; omega)).mono ?_; rintro e w3 ⟨rfl, hV2, hP2⟩; clear hV1; have q2_0 := keep5 hP2 (by omega) q1_0; have q2_1 := keep5 hP2 (by omega) q1_1; have q2_2 := keep5 hP2 (by omega) q1_2; have q2_3 := keep5 hP2 (by omega) q1_3)
      | (go_at_call 72; refine (wnum_at _ _ _ _ hV0 2 (by omega) (by simp [Pk.num_length])).mono ?_; rintro e w2 ⟨rfl, hV1, hP1⟩; clear hV0; have q1_0 := keep5 hP1 (by omega) q0_0; have q1_1 := keep5 hP1 (by omega) q0_1; have q1_2 := keep5 hP1 (by omega) q0_2; have q1_3 := keep5 hP1 (by omega) q0_3)
      | (go_at_call 73; refine (wbytes_at _ _ _ _ hV5 hbyte).mono ?_; rintro e w7 ⟨rfl, rfl⟩))
  go_wp2_with fail
  go_ret
  exact ⟨by rw [← HEQ.out]; rfl, (hn.trans hA).andThen (((((hP1).trans hP2).trans hP3).trans hP4).trans hP5) (fun k hk h => by have h' : w.heap.size + 1 ≤ k := h; omega)⟩

set_option maxHeartbeats 400000 in
theorem snaprec_at (w : World) (index term config : Nat) (data : ByteArray) (hi : index < 18446744073709551616) (ht : term < 18446744073709551616) (hcf : config < 18446744073709551616) (hd : data.size ≤ 1000000000000) :
    Calls Try.prog 51 #[.agg #[.int .u64 index, .int .u64 term, .int .u64 config, .string data]] w fun e w' => e = .returned (.string (textOf (Rc.snap ⟨index, term, config, data⟩))) ∧ Only NoBlock w w' := by
  go_enter Try.func51, Try.ntmps51
  go_wp2_with fail
  have hbx := Blk.made w #[.int .u64 index, .int .u64 term, .int .u64 config, .string data] 39
  have hn := (Only.refl NoBlock w).alloc (Obj.cells #[.int .u64 index, .int .u64 term, .int .u64 config, .string data] 39)
  have hsz : (w.alloc (Obj.cells #[.int .u64 index, .int .u64 term, .int .u64 config, .string data] 39)).heap.size = w.heap.size + 1 := by simp
  generalize w.alloc (Obj.cells #[.int .u64 index, .int .u64 term, .int .u64 config, .string data] 39) = w1 at hbx hn hsz ⊢
  have b0 : w1.cell? ⟨w.heap.size, 0, none⟩ = some (.int .u64 index) := by rw [hbx.cell]; rfl
  have b1 : w1.cell? ⟨w.heap.size, 1, none⟩ = some (.int .u64 term) := by rw [hbx.cell]; rfl
  have b2 : w1.cell? ⟨w.heap.size, 2, none⟩ = some (.int .u64 config) := by rw [hbx.cell]; rfl
  have b3 : w1.cell? ⟨w.heap.size, 3, none⟩ = some (.string data) := by rw [hbx.cell]; rfl
  have hV0 : WriterAt (w1.drew.alloc (.cells #[.slice none 0 0] 139)) (w.heap.size + 1) (w.heap.size + 1) [] := by rw [← hsz]; exact WriterAt.new w1.drew
  have hA : Only NoBlock w1 (w1.drew.alloc (.cells #[.slice none 0 0] 139)) := ((Only.refl NoBlock w1).drew).alloc _
  have q0_0 : (w1.drew.alloc (.cells #[.slice none 0 0] 139)).cell? ⟨w.heap.size, 0, none⟩ = some (.int .u64 index) := by rw [(hbx.keeps hA (fun h => h)).cell]; rfl
  have q0_1 : (w1.drew.alloc (.cells #[.slice none 0 0] 139)).cell? ⟨w.heap.size, 1, none⟩ = some (.int .u64 term) := by rw [(hbx.keeps hA (fun h => h)).cell]; rfl
  have q0_2 : (w1.drew.alloc (.cells #[.slice none 0 0] 139)).cell? ⟨w.heap.size, 2, none⟩ = some (.int .u64 config) := by rw [(hbx.keeps hA (fun h => h)).cell]; rfl
  have q0_3 : (w1.drew.alloc (.cells #[.slice none 0 0] 139)).cell? ⟨w.heap.size, 3, none⟩ = some (.string data) := by rw [(hbx.keeps hA (fun h => h)).cell]; rfl
  have s0 := Pk.size_le8 (x := 4) (by omega)
  have s1 := Pk.size_le8 (x := index) hi
  have s2 := Pk.size_le8 (x := term) ht
  have s3 := Pk.size_le8 (x := config) hcf
  have hbyte : ∀ c ∈ [] ++ Pk.num 4 ++ Pk.num index ++ Pk.num term ++ Pk.num config ++ Pk.text (nums data), 0 ≤ c ∧ c ≤ 255 := by
    intro c hc
    simp only [List.nil_append, List.mem_append, Pk.text] at hc
    rcases hc with (((hc | hc) | hc) | hc) | (hc | hc)
    · exact Pk.num_byte (by omega) c hc
    · exact Pk.num_byte hi c hc
    · exact Pk.num_byte ht c hc
    · exact Pk.num_byte hcf c hc
    · exact Pk.num_byte (by rw [nums_length]; omega) c hc
    · exact nums_byte _ c hc
  have heq : textOf (Pk.num 4 ++ (Pk.num index ++ (Pk.num term ++ (Pk.num config ++ Pk.text (nums data))))) = textOf (Rc.snap ⟨index, term, config, data⟩) := by unfold Rc.snap; simp only [List.append_assoc]
  have HEQ := Lib.hid heq
  clear heq
  go_region_held3 (fun w' => w'.cell? ⟨w.heap.size, 0, none⟩ = some (.int .u64 index) ∧ w'.cell? ⟨w.heap.size, 1, none⟩ = some (.int .u64 term) ∧ w'.cell? ⟨w.heap.size, 2, none⟩ = some (.int .u64 config) ∧ w'.cell? ⟨w.heap.size, 3, none⟩ = some (.string data))
    (first | exact ⟨b0, b1, b2, b3⟩ | exact ⟨by assumption, by assumption, by assumption, by assumption⟩ | go_keep)
    (first
      | (go_at_call 74; refine (wtext_at _ _ _ _ hV4 data hd (by simp [Pk.num_length]; omega)).mono ?_; rintro e w6 ⟨rfl, hV5, hP5⟩; clear hV4; have q5_0 := keep5 hP5 (by omega) q4_0; have q5_1 := keep5 hP5 (by omega) q4_1; have q5_2 := keep5 hP5 (by omega) q4_2; have q5_3 := keep5 hP5 (by omega) q4_3)
      | (go_at_call 72; refine (wnum_at _ _ _ _ hV3 config hcf (by simp [Pk.num_length]; omega)).mono ?_; rintro e w5 ⟨rfl, hV4, hP4⟩; clear hV3; have q4_0 := keep5 hP4 (by omega) q3_0; have q4_1 := keep5 hP4 (by omega) q3_1; have q4_2 := keep5 hP4 (by omega) q3_2; have q4_3 := keep5 hP4 (by omega) q3_3)
      | (go_at_call 72; refine (wnum_at _ _ _ _ hV2 term ht (by simp [Pk.num_length]; omega)).mono ?_; rintro e w4 ⟨rfl, hV3, hP3⟩; clear hV2; have q3_0 := keep5 hP3 (by omega) q2_0; have q3_1 := keep5 hP3 (by omega) q2_1; have q3_2 := keep5 hP3 (by omega) q2_2; have q3_3 := keep5 hP3 (by omega) q2_3)
      | (go_at_call 72; refine (wnum_at _ _ _ _ hV1 index hi (by simp [Pk.num_length]; omega)).mono ?_; rintro e w3 ⟨rfl, hV2, hP2⟩; clear hV1; have q2_0 := keep5 hP2 (by omega) q1_0; have q2_1 := keep5 hP2 (by omega) q1_1; have q2_2 := keep5 hP2 (by omega) q1_2; have q2_3 := keep5 hP2 (by omega) q1_3)
      | (go_at_call 72; refine (wnum_at _ _ _ _ hV0 4 (by omega) (by simp [Pk.num_length])).mono ?_; rintro e w2 ⟨rfl, hV1, hP1⟩; clear hV0; have q1_0 := keep5 hP1 (by omega) q0_0; have q1_1 := keep5 hP1 (by omega) q0_1; have q1_2 := keep5 hP1 (by omega) q0_2; have q1_3 := keep5 hP1 (by omega) q0_3)
      | (go_at_call 73; refine (wbytes_at _ _ _ _ hV5 hbyte).mono ?_; rintro e w7 ⟨rfl, rfl⟩))
  go_wp2_with fail
  go_ret
  exact ⟨by rw [← HEQ.out]; rfl, (hn.trans hA).andThen (((((hP1).trans hP2).trans hP3).trans hP4).trans hP5) (fun k hk h => by have h' : w.heap.size + 1 ≤ k := h; omega)⟩

end Go.Proofs.Ytekmjhenhgmpgaa

/- Bits of small sets, in plain numbers; and what math/bits makes of them. -/
namespace Go.Proofs.Ytekmjhenhgmpgaa
open Go.RowKit

namespace Qu
/-- x as 64 bits -/
def W (x : Int) : Prop := 0 ≤ x ∧ x < 18446744073709551616
theorem and_nat {x y : Nat} (hx : x < 2 ^ 64) (hy : y < 2 ^ 64) : bits .and .u64 (x : Int) (y : Int) = ((x &&& y : Nat) : Int) := by
  unfold bits
  simp only [IntKind.wrap_u64]
  show ((BitVec.ofInt 64 (x : Int) &&& BitVec.ofInt 64 (y : Int)).toNat : Int) % 18446744073709551616 = _
  rw [BitVec.toNat_and, BitVec.ofInt_natCast, BitVec.ofInt_natCast, BitVec.toNat_ofNat, BitVec.toNat_ofNat, Nat.mod_eq_of_lt hx, Nat.mod_eq_of_lt hy]
  have : x &&& y ≤ x := Nat.and_le_left
  omega
theorem or_nat {x y : Nat} (hx : x < 2 ^ 64) (hy : y < 2 ^ 64) : bits .or .u64 (x : Int) (y : Int) = ((x ||| y : Nat) : Int) := by
  unfold bits
  simp only [IntKind.wrap_u64]
  show ((BitVec.ofInt 64 (x : Int) ||| BitVec.ofInt 64 (y : Int)).toNat : Int) % 18446744073709551616 = _
  rw [BitVec.toNat_or, BitVec.ofInt_natCast, BitVec.ofInt_natCast, BitVec.toNat_ofNat, BitVec.toNat_ofNat, Nat.mod_eq_of_lt hx, Nat.mod_eq_of_lt hy]
  have := Nat.or_lt_two_pow (n := 64) hx hy
  omega
end Qu

namespace Qu
def o1 (x : Int) : Int := IntKind.u64.wrap (bits .and .u64 (x / 2) 6148914691236517205 + bits .and .u64 x 6148914691236517205)
def o2 (x : Int) : Int := IntKind.u64.wrap (bits .and .u64 (x / 4) 3689348814741910323 + bits .and .u64 x 3689348814741910323)
def o3 (x : Int) : Int := bits .and .u64 (IntKind.u64.wrap (x / 16 + x)) 1085102592571150095
def o4 (x : Int) : Int := IntKind.u64.wrap (x + x / 256)
def o5 (x : Int) : Int := IntKind.u64.wrap (x + x / 65536)
def o6 (x : Int) : Int := IntKind.u64.wrap (x + x / 4294967296)
end Qu

namespace Qu
def tab : List Nat := [0, 1, 56, 2, 57, 49, 28, 3, 61, 58, 42, 50, 38, 29, 17, 4, 62, 47, 59, 36, 45, 43, 51, 22, 53, 39, 33, 30, 24, 18, 12, 5, 63, 55, 48, 27, 60, 41, 37, 16, 46, 35, 44, 21, 52, 32, 23, 11, 54, 26, 40, 15, 34, 20, 31, 10, 25, 14, 19, 9, 13, 8, 7, 6]
/-- the table of math/bits lies where the program lays it -/
def TabOk (w : World) : Prop := ∀ i, i < 64 → w.cell? ⟨0, i, none⟩ = some (.int .u8 (tab.getD i 0))
theorem TabOk.keeps {S : Nat → Prop} {w w' : World} (h : TabOk w) (ho : Only S w w') (hs : ¬ S 0) : TabOk w' := by
  intro i hi
  have hc := h i hi
  have hlt : 0 < w.heap.size := World.block_lt_of_cell? w _ hc
  have hb := ho.block 0 hlt hs
  rw [← hc]
  simp [World.cell?, hb]

/-- the members of a set of bits -/
def mem (m : Nat) : List Int := ((List.range 7).filter (fun i => m.testBit i)).map (fun (i : Nat) => (i : Int))
def pop (m : Nat) : Nat := (mem m).length
/-- the bits that count -/
def low (c : Int) : Nat := (c % 128).toNat
theorem low_lt (c : Int) : low c < 128 := by unfold low; omega
theorem and_127 {c : Int} (h : W c) : bits .and .u64 c 127 = (low c : Int) := by
  have e := bits_mask .u64 64 (by decide) (fun n h0 h1 => by rw [IntKind.wrap_u64]; omega) 7 (by decide) c h.1 (by have := h.2; omega)
  have e2 : bits .and .u64 c 127 = c % 128 := e
  rw [e2]
  unfold low
  omega
def oc (x : Int) : Int := bits .and .i64 (o6 (o5 (o4 (o3 (o2 (o1 x)))))) 127
theorem oc_pop : ∀ x : Fin 128, oc (x.val : Int) = (pop x.val : Int) := by decide +kernel
theorem o6_small : ∀ x : Fin 128, 0 ≤ o6 (o5 (o4 (o3 (o2 (o1 (x.val : Int)))))) ∧ o6 (o5 (o4 (o3 (o2 (o1 (x.val : Int)))))) < 1000000000000000000 := by decide +kernel
/-- the place of the table -/
def ti (x : Int) : Int := IntKind.u64.wrap (bits .and .u64 x (IntKind.u64.wrap (-x)) * 285870213051353865) / 288230376151711744
def tz (x : Nat) : Nat := tab.getD (ti (x : Int)).toNat 0
theorem ti_in : ∀ x : Fin 128, 0 ≤ ti (x.val : Int) ∧ ti (x.val : Int) < 64 := by decide +kernel
theorem mem_step : ∀ x : Fin 128, x.val ≠ 0 → mem x.val = (tz x.val : Int) :: mem (x.val &&& (x.val - 1)) := by decide +kernel
theorem tz_small : ∀ x : Fin 128, tz x.val < 64 := by decide +kernel
theorem mem_zero : mem 0 = [] := by decide
theorem and_lt {x : Nat} (h : x < 128) : x &&& (x - 1) < 128 := Nat.lt_of_le_of_lt Nat.and_le_left h
theorem and_less {x : Nat} (h : x ≠ 0) : x &&& (x - 1) < x := Nat.lt_of_le_of_lt Nat.and_le_right (by omega)
theorem pop_le (m : Nat) : pop m ≤ 7 := by
  unfold pop mem
  rw [List.length_map]
  have := List.length_filter_le (fun i => m.testBit i) (List.range 7)
  simpa using this
theorem mem_range (m : Nat) : ∀ x ∈ mem m, 0 ≤ x ∧ x < 7 := by
  intro x hx
  unfold mem at hx
  obtain ⟨i, hi, rfl⟩ := List.mem_map.1 hx
  have := (List.mem_filter.1 hi).1
  rw [List.mem_range] at this
  omega
end Qu

end Go.Proofs.Ytekmjhenhgmpgaa

/- The program's quorum: what each of its functions but Reached answers. -/
namespace Go.Proofs.Ytekmjhenhgmpgaa
open Go.RowKit

namespace Qu
theorem and_1 {y : Int} (h : W y) : bits .and .u64 y 1 = y % 2 :=
  bits_mask .u64 64 (by decide) (fun n h0 h1 => by rw [IntKind.wrap_u64]; omega) 1 (by decide) y h.1 (by have := h.2; omega)
/-- is id a member of c? -/
def hasB (c : Nat) (id : Int) : Bool := decide (0 ≤ id ∧ id < 7) && (c % 128).testBit id.toNat
theorem hasB_in {c k : Nat} (hk : k < 7) : hasB c (k : Int) = decide (c / 2 ^ k % 2 = 1) := by
  unfold hasB
  have e : (c % 128).testBit k = c.testBit k := by
    have := Nat.testBit_mod_two_pow c 7 k
    rw [show (2 : Nat) ^ 7 = 128 from rfl] at this
    rw [this]
    simp [hk]
  rw [Int.toNat_natCast, e, Nat.testBit_eq_decide_div_mod_eq]
  simp
  omega
theorem hasB_out {c : Nat} {id : Int} (h : id < 0 ∨ 7 ≤ id) : hasB c id = false := by
  unfold hasB
  have : decide (0 ≤ id ∧ id < 7) = false := by simp; omega
  rw [this]
  rfl
def soundB (c : Nat) : Bool := decide (0 < c ∧ c < 128)
/-- the bits above: are there any? -/
theorem andNot_127 {c : Nat} (hc : c < 2 ^ 64) : (bits .andNot .u64 (c : Int) 127 == 0) = decide (c < 128) := by
  have e : bits .andNot .u64 (c : Int) 127 = ((BitVec.ofNat 64 c &&& ~~~ (127#64)).toNat : Int) := by
    unfold bits
    simp only [IntKind.wrap_u64]
    show ((BitVec.ofInt 64 (c : Int) &&& ~~~ (BitVec.ofInt 64 127)).toNat : Int) % 18446744073709551616 = _
    rw [BitVec.ofInt_natCast]
    have e2 : BitVec.ofInt 64 127 = 127#64 := by decide
    rw [e2]
    have := (BitVec.ofNat 64 c &&& ~~~127#64).isLt
    omega
  rw [e]
  by_cases h : c < 128
  · have : (BitVec.ofNat 64 c &&& ~~~ (127#64)) = 0#64 := by
      have hd : ∀ x : Fin 128, (BitVec.ofNat 64 x.val &&& ~~~ (127#64)) = 0#64 := by decide +kernel
      exact hd ⟨c, h⟩
    rw [this]
    simp [h]
  · have hne : (BitVec.ofNat 64 c &&& ~~~ (127#64)) ≠ 0#64 := by
      intro h0
      apply h
      have : c < 2 ^ 7 := by
        refine Nat.lt_pow_two_of_testBit c fun i hi => ?_
        have h1 : (BitVec.ofNat 64 c &&& ~~~ (127#64)).getLsbD i = false := by rw [h0]; simp
        rcases Nat.lt_or_ge i 64 with hi64 | hi64
        · rw [BitVec.getLsbD_and, BitVec.getLsbD_not, BitVec.getLsbD_ofNat] at h1
          have h127 : (127#64).getLsbD i = false := by
            have hd : ∀ j : Fin 64, 7 ≤ j.val → (127#64).getLsbD j.val = false := by decide +kernel
            exact hd ⟨i, hi64⟩ hi
          rw [h127] at h1
          simpa [hi64] using h1
        · exact Nat.testBit_lt_two_pow (Nat.lt_of_lt_of_le hc (Nat.pow_le_pow_right (by decide) hi64))
      exact this
    have : ((BitVec.ofNat 64 c &&& ~~~ (127#64)).toNat : Int) ≠ 0 := by
      intro h1
      apply hne
      apply BitVec.eq_of_toNat_eq
      simpa using h1
    simp [h]
    simpa using this
theorem and_low {c : Nat} (hc : c < 2 ^ 64) : bits .and .u64 (c : Int) 127 = ((c % 128 : Nat) : Int) := by
  rw [and_127 ⟨by omega, by omega⟩]
  unfold low
  omega
def needN (c : Nat) : Nat := pop (c % 128) / 2 + 1
def majB (c s : Nat) : Bool := decide (needN c ≤ pop ((c &&& s) % 128))
end Qu

theorem sound_at (w : World) (c : Nat) (hc : c < 2 ^ 64) :
    Calls Try.prog 36 #[.int .u64 c] w fun e w' => e = .returned (.bool (Qu.soundB c)) ∧ w = w' := by
  have hb := Qu.andNot_127 hc
  have HB := Lib.hid hb
  clear hb
  by_cases h0 : c = 0
  · subst h0
    go_enter Try.func36, Try.ntmps36
    go_wp2
    go_ret
    exact ⟨rfl, rfl⟩
  · have h1 : ((c : Int) != 0) = true := by simp; omega
    have h2 : ((c : Int) == 0) = false := by simp; omega
    have HZ := Lib.hid h0
    clear h0
    go_enter Try.func36, Try.ntmps36
    go_wp2
    go_ret
    refine ⟨?_, rfl⟩
    show Ending.returned (.bool (bits .andNot .u64 (c : Int) 127 == 0)) = _
    rw [HB.out]
    unfold Qu.soundB
    have := HZ.out
    congr 2
    simp
    omega

theorem cell_one_int (w : World) (c : Int) (t : TypeId) (n : Nat) (hn : n = w.heap.size) : (w.alloc (.cells #[.int .i64 c] t)).cell? ⟨n, 0, none⟩ = some (.int .i64 c) := cell_int w c t n hn

end Go.Proofs.Ytekmjhenhgmpgaa

/- A node's log in plain data: which entries may lie where, and which logs there may be. -/
namespace Go.Proofs.Ytekmjhenhgmpgaa
open Go.RowKit

namespace Rl
/-- the members that an entry's data says, and whether it says any -/
def cfgV (d : ByteArray) : Nat := Pk.numV (nums d)
def cfgB (d : ByteArray) : Bool := (Pk.numR ⟨nums d, false⟩).done && Qu.soundB (cfgV d)
/-- may an entry lie at an index, behind one of a term? -/
def plainOk (e : Ent) (index term : Nat) : Bool := decide (index ≠ 0 ∧ e.index = index ∧ term ≤ e.term ∧ 0 ≤ e.kind ∧ e.kind ≤ 2 ∧ e.data.size ≤ 32768)
def sound (e : Ent) (index term : Nat) : Bool := plainOk e index term && (decide (e.kind ≠ 2) || cfgB e.data)
def next (i : Nat) : Nat := (i + 1) % 18446744073709551616
def chain : Nat → Nat → List Ent → Bool
  | _, _, [] => true
  | i, t, e :: r => sound e (next i) t && chain e.index e.term r
def newOk (s : Snp) (l : List Ent) : Bool := Qu.soundB s.config && chain s.index s.term l
/-- the last index and term behind some entries -/
def lastI (s : Snp) (l : List Ent) : Nat := match l.getLast? with | none => s.index | some e => e.index
def lastT (s : Snp) (l : List Ent) : Nat := match l.getLast? with | none => s.term | some e => e.term
theorem chain_at : ∀ (l : List Ent) (i t : Nat) (k : Nat), k < l.length → chain i t l = true → sound (l.getD k Ent.zero) (next (match (l.take k).getLast? with | none => i | some e => e.index)) (match (l.take k).getLast? with | none => t | some e => e.term) = true
  | [], _, _, _, h, _ => by simp at h
  | e :: r, i, t, 0, _, h => by
    unfold chain at h
    rw [Bool.and_eq_true] at h
    simpa using h.1
  | e :: r, i, t, k + 1, hk, h => by
    unfold chain at h
    rw [Bool.and_eq_true] at h
    have := chain_at r e.index e.term k (by simpa using hk) h.2
    rw [List.getD_cons_succ, List.take_succ_cons]
    cases hg : (r.take k).getLast? with
    | none =>
      rw [hg] at this
      have hn : r.take k = [] := by simpa using hg
      rw [hn]
      simpa using this
    | some x =>
      rw [hg] at this
      have : (e :: r.take k).getLast? = some x := by
        rw [List.getLast?_cons, hg]; rfl
      rw [this]
      assumption
theorem chain_snoc : ∀ (l : List Ent) (e : Ent) (i t : Nat), chain i t (l ++ [e]) = (chain i t l && sound e (next (match l.getLast? with | none => i | some x => x.index)) (match l.getLast? with | none => t | some x => x.term))
  | [], e, i, t => by simp [chain]
  | x :: r, e, i, t => by
    rw [List.cons_append]
    unfold chain
    rw [chain_snoc r e x.index x.term, Bool.and_assoc]
    congr 1
    cases hg : r.getLast? with
    | none =>
      have hn : r = [] := by simpa using hg
      subst hn
      rfl
    | some y =>
      have : (x :: r).getLast? = some y := by rw [List.getLast?_cons, hg]; rfl
      rw [this]
end Rl
end Go.Proofs.Ytekmjhenhgmpgaa

/- The program's log of entries: what may lie where, the last one, a new log. -/
namespace Go.Proofs.Ytekmjhenhgmpgaa
open Go.RowKit
set_option maxRecDepth 100000

theorem configof_at (w : World) (d : ByteArray) (hd : d.size ≤ 1000000000000) :
    Calls Try.prog 95 #[.string d] w fun e w' => e = .returned (.tuple #[.int .u64 (Rl.cfgV d : Nat), .bool (Rl.cfgB d)]) ∧ Only NoBlock w w' := by
  have hV : Pk.numV (nums d) = Rl.cfgV d := rfl
  have hlt : Rl.cfgV d < 18446744073709551616 := Pk.numV_lt (nums_byte d)
  have HB : RowKit.Hid (Rl.cfgB d = ((Pk.numR ⟨nums d, false⟩).done && Qu.soundB (Rl.cfgV d))) := Lib.hid rfl
  have HV := Lib.hid hV
  clear hV
  go_enter Try.func95, Try.ntmps95
  go_wp2_with fail
  refine (rfrom_at w d hd).mono ?_
  rintro e w1 ⟨rfl, hR1, hO1⟩
  go_wp2_with fail
  refine (rnum_at w1 _ _ hR1).mono ?_
  rintro e w2 ⟨rfl, hR2, hO2⟩
  have hO2' : Only NoBlock w w2 := hO1.andThen hO2 (fun k hk h => by omega)
  simp only at hR2 ⊢
  rw [HV.out]
  obtain ⟨c, hc⟩ : ∃ c, Rl.cfgV d = c := ⟨_, rfl⟩
  rw [hc] at hlt HB ⊢
  have HC := Lib.hid hc
  clear hc HV
  go_wp2_with fail
  refine (rdone_at w2 _ _ hR2).mono ?_
  rintro e w3 ⟨rfl, q, rfl⟩
  cases hdn : (Pk.numR ⟨nums d, false⟩).done with
  | false =>
    rw [hdn] at HB
    have hb : Rl.cfgB d = false := HB.out
    have HB2 := Lib.hid hb
    clear hb HB hdn
    go_wp2_with fail
    go_ret2
    exact ⟨by rw [HB2.out, HC.out]; rfl, hO2'.drewN q⟩
  | true =>
    rw [hdn] at HB
    have hb : Rl.cfgB d = Qu.soundB c := HB.out
    have HB2 := Lib.hid hb
    clear hb HB hdn
    go_wp2_with fail
    refine (sound_at _ c (by omega)).mono ?_
    rintro e w4 ⟨rfl, rfl⟩
    generalize Qu.soundB c = b at HB2 ⊢
    go_wp2_with fail
    go_ret2
    exact ⟨by rw [HB2.out, HC.out]; rfl, hO2'.drewN q⟩

set_option maxHeartbeats 2000000 in
theorem soundent_at (w : World) (e : Ent) (he : e.Wf) (index term : Nat) (hi : index < 18446744073709551616) (ht : term < 18446744073709551616) :
    Calls Try.prog 88 #[.agg #[.int .u64 e.term, .int .u64 e.index, .int .i64 e.kind, .string e.data], .int .u64 index, .int .u64 term] w fun en w' => en = .returned (.bool (Rl.sound e index term)) ∧ Only NoBlock w w' := by
  obtain ⟨et, ei, ek, ed⟩ := e
  obtain ⟨h1, h2, h3, h4⟩ := he
  simp only at h1 h2 h3 h4 ⊢
  have hbx := Blk.made w #[.int .u64 et, .int .u64 ei, .int .i64 ek, .string ed] 77
  have hn := (Only.refl NoBlock w).alloc (Obj.cells #[.int .u64 et, .int .u64 ei, .int .i64 ek, .string ed] 77)
  go_enter Try.func88, Try.ntmps88
  go_upto_region 1 with fail
  generalize w.alloc (Obj.cells #[.int .u64 et, .int .u64 ei, .int .i64 ek, .string ed] 77) = w1 at hbx hn ⊢
  have b0 : w1.cell? ⟨w.heap.size, 0, none⟩ = some (.int .u64 et) := by rw [hbx.cell]; rfl
  have b1 : w1.cell? ⟨w.heap.size, 1, none⟩ = some (.int .u64 ei) := by rw [hbx.cell]; rfl
  have b2 : w1.cell? ⟨w.heap.size, 2, none⟩ = some (.int .i64 ek) := by rw [hbx.cell]; rfl
  have b3 : w1.cell? ⟨w.heap.size, 3, none⟩ = some (.string ed) := by rw [hbx.cell]; rfl
  have no : Rl.plainOk ⟨et, ei, ek, ed⟩ index term = false → RowKit.Hid (Rl.sound ⟨et, ei, ek, ed⟩ index term = false) := fun h => Lib.hid (by unfold Rl.sound; rw [h]; rfl)
  have NO := Lib.hid no
  clear no
  by_cases k0 : index = 0
  · have HN := NO.out (by unfold Rl.plainOk; simp [k0])
    subst k0
    go_wp2_with fail
    go_ret
    exact ⟨by rw [HN.out]; rfl, hn⟩
  have d0 : ((index : Int) == 0) = false := by simp; omega
  by_cases k1 : ei ≠ index
  · have HN := NO.out (by unfold Rl.plainOk; simp [k1])
    have d1 : ((ei : Int) != (index : Int)) = true := by simp; omega
    clear k0 k1
    go_wp2_with fail
    go_ret
    exact ⟨by rw [HN.out]; rfl, hn⟩
  have d1 : ((ei : Int) != (index : Int)) = false := by simp; omega
  by_cases k2 : et < term
  · have HN := NO.out (by unfold Rl.plainOk; simp; intros; omega)
    have d2 : decide (et < term) = true := by simpa using k2
    clear k0 k1 k2
    go_wp2_with fail
    go_ret
    exact ⟨by rw [HN.out]; rfl, hn⟩
  have d2 : decide (et < term) = false := by simpa using k2
  by_cases k3 : ek < 0
  · have HN := NO.out (by unfold Rl.plainOk; simp; intros; omega)
    have d3 : decide (ek < 0) = true := by simpa using k3
    clear k0 k1 k2 k3
    go_wp2_with fail
    go_ret
    exact ⟨by rw [HN.out]; rfl, hn⟩
  have d3 : decide (ek < 0) = false := by simpa using k3
  by_cases k4 : 2 < ek
  · have HN := NO.out (by unfold Rl.plainOk; simp; intros; omega)
    have d4 : decide (2 < ek) = true := by simpa using k4
    clear k0 k1 k2 k3 k4
    go_wp2_with fail
    go_ret
    exact ⟨by rw [HN.out]; rfl, hn⟩
  have d4 : decide (2 < ek) = false := by simpa using k4
  by_cases k5 : 32768 < ed.size
  · have HN := NO.out (by unfold Rl.plainOk; simp; intros; omega)
    have d5 : decide ((32768 : Int) < (ed.size : Int)) = true := by simp; omega
    clear k0 k1 k2 k3 k4 k5
    go_wp2_with fail
    go_ret
    exact ⟨by rw [HN.out]; rfl, hn⟩
  have d5 : decide ((32768 : Int) < (ed.size : Int)) = false := by simp; omega
  have HY : RowKit.Hid (Rl.sound ⟨et, ei, ek, ed⟩ index term = (decide (ek ≠ 2) || Rl.cfgB ed)) := Lib.hid (by
    unfold Rl.sound
    have : Rl.plainOk ⟨et, ei, ek, ed⟩ index term = true := by unfold Rl.plainOk; simp only [decide_eq_true_eq]; omega
    rw [this, Bool.true_and])
  clear NO
  have hdd : ed.size ≤ 1000000000000 := by omega
  clear k0 k1 k2 k3 k4 k5
  go_wp2_with fail
  refine (configof_at w1 ed hdd).mono ?_
  rintro en w2 ⟨rfl, hO2⟩
  have b2' : w2.cell? ⟨w.heap.size, 2, none⟩ = some (.int .i64 ek) := by rw [(hbx.keeps hO2 (fun h => h)).cell]; rfl
  clear b0 b1 b2 b3
  by_cases k6 : ek = 2
  · subst k6
    generalize Rl.cfgB ed = b at HY ⊢
    go_wp2_with fail
    go_ret
    exact ⟨by rw [HY.out]; rfl, hn.trans hO2⟩
  · have d6 : (ek != 2) = true := by simpa using k6
    have hy : Rl.sound ⟨et, ei, ek, ed⟩ index term = true := by rw [HY.out]; simp [k6]
    have HY2 := Lib.hid hy
    clear hy HY k6
    go_wp2_with fail
    go_ret
    exact ⟨by rw [HY2.out]; rfl, hn.trans hO2⟩


/-- block g is a log: a snapshot, and entries in a row of the call's own -/
def RlogAt (w : World) (base g : Nat) (s : Snp) (es : List Ent) : Prop := ∃ v, Blk w g #[.int .u64 s.index, .int .u64 s.term, .int .u64 s.config, .string s.data, v] 157 ∧ Ents w base v es
theorem RlogAt.keeps {S : Nat → Prop} {w w' : World} {base g : Nat} {s : Snp} {es : List Ent} (h : RlogAt w base g s es) (ho : Only S w w') (hg : ¬ S g) (hb : ∀ k, S k → k < base) : RlogAt w' base g s es := by
  obtain ⟨v, h1, h2⟩ := h
  refine ⟨v, h1.keeps ho hg, h2.keeps ho fun k hk e => ?_⟩
  have h3 := (World.ownsRow.lt h2.1 k hk).1
  have := hb k e
  omega

theorem getLast_getD {l : List Ent} (h : 0 < l.length) : l.getLast? = some (l.getD (l.length - 1) Ent.zero) := by
  rw [List.getLast?_eq_getElem?, List.getD_eq_getElem?_getD, List.getElem?_eq_getElem (by omega)]
  rfl

set_option maxHeartbeats 2000000 in
theorem rloglast_at (w : World) (base g : Nat) (s : Snp) (es : List Ent) (h : RlogAt w base g s es) (hl : es.length ≤ 1000000000000) :
    Calls Try.prog 87 #[.pointer (some ⟨g, 0, none⟩)] w fun e w' => e = .returned (.tuple #[.int .u64 (Rl.lastI s es : Nat), .int .u64 (Rl.lastT s es : Nat)]) ∧ ∃ q, w' = w.drewN q := by
  obtain ⟨v, hb, he⟩ := h
  obtain ⟨ao, cap, rfl⟩ := he.shape
  obtain ⟨hin, -, -⟩ := he.read (by omega)
  have c0 := hb.cell 0
  have c1 := hb.cell 1
  have c4 := hb.cell 4
  simp at c0 c1 c4
  by_cases hn : 0 < es.length
  · have hlast := getLast_getD hn
    have HI : RowKit.Hid (Rl.lastI s es = (es.getD (es.length - 1) Ent.zero).index) := Lib.hid (by unfold Rl.lastI; rw [hlast])
    have HT : RowKit.Hid (Rl.lastT s es = (es.getD (es.length - 1) Ent.zero).term) := Lib.hid (by unfold Rl.lastT; rw [hlast])
    obtain ⟨b, off, rfl, e0, e1, -, -⟩ := hin.cell (es.length - 1) (by omega)
    obtain ⟨n, hn1⟩ : ∃ n, es.length = n + 1 := ⟨es.length - 1, by omega⟩
    rw [hn1] at c4 e0 e1 HI HT hl
    rw [Nat.add_sub_cancel] at e0 e1 HI HT
    generalize es.getD n Ent.zero = x at e0 e1 HI HT
    clear hlast hn hin he hb c0 c1 hn1
    go_enter Try.func87, Try.ntmps87
    go_wp2_with fail
    go_quiet (fail)
    go_wp2_with fail
    go_ret2
    exact ⟨by rw [HI.out, HT.out]; rfl, _, rfl⟩
  · obtain rfl : es = [] := List.length_eq_zero_iff.1 (by omega)
    clear hin he
    go_enter Try.func87, Try.ntmps87
    go_wp2_with fail
    go_quiet (fail)
    go_wp2_with fail
    go_ret2
    exact ⟨rfl, _, rfl⟩


namespace Rl
theorem newOk_no {s : Snp} {l : List Ent} {k : Nat} (hk : k < l.length) (h : sound (l.getD k Ent.zero) (next (lastI s (l.take k))) (lastT s (l.take k)) = false) : newOk s l = false := by
  cases hn : newOk s l with
  | false => rfl
  | true =>
    unfold newOk at hn
    rw [Bool.and_eq_true] at hn
    have := chain_at l s.index s.term k hk hn.2
    unfold lastI lastT at h
    rw [this] at h
    cases h
theorem newOk_cfg {s : Snp} {l : List Ent} (h : Qu.soundB s.config = false) : newOk s l = false := by unfold newOk; rw [h]; rfl
end Rl

theorem ent_made (w : World) (e : Ent) (t : TypeId) :
    (w.alloc (.cells #[.int .u64 e.term, .int .u64 e.index, .int .i64 e.kind, .string e.data] t)).drew.cell? ⟨w.heap.size, 0, none⟩ = some (.int .u64 e.term) ∧
    (w.alloc (.cells #[.int .u64 e.term, .int .u64 e.index, .int .i64 e.kind, .string e.data] t)).drew.cell? ⟨w.heap.size, 1, none⟩ = some (.int .u64 e.index) ∧
    (w.alloc (.cells #[.int .u64 e.term, .int .u64 e.index, .int .i64 e.kind, .string e.data] t)).drew.cell? ⟨w.heap.size, 2, none⟩ = some (.int .i64 e.kind) ∧
    (w.alloc (.cells #[.int .u64 e.term, .int .u64 e.index, .int .i64 e.kind, .string e.data] t)).drew.cell? ⟨w.heap.size, 3, none⟩ = some (.string e.data) := by
  have h := (Blk.made w #[.int .u64 e.term, .int .u64 e.index, .int .i64 e.kind, .string e.data] t).drew
  exact ⟨by rw [h.cell]; rfl, by rw [h.cell]; rfl, by rw [h.cell]; rfl, by rw [h.cell]; rfl⟩
/-- what a new log answers -/
def RlogEnd (s : Snp) (l : List Ent) (w : World) (e : Ending) (w' : World) : Prop :=
  Only NoBlock w w' ∧ ((Rl.newOk s l = true ∧ ∃ g, e = .returned (.tuple #[.pointer (some ⟨g, 0, none⟩), .int .i64 0]) ∧ w.heap.size ≤ g ∧ RlogAt w' w.heap.size g s l) ∨
    (Rl.newOk s l = false ∧ e = .returned (.tuple #[.pointer none, .int .i64 1])))

set_option maxHeartbeats 4000000 in
theorem rlognew_at (w : World) (s : Snp) (hs : s.Wf) (ao : Option Addr) (cap : Nat) (l : List Ent) (hl : EntsIn w ao l) (hll : l.length ≤ 1000000000000) :
    Calls Try.prog 67 #[.agg #[.int .u64 s.index, .int .u64 s.term, .int .u64 s.config, .string s.data], .slice ao l.length cap] w (RlogEnd s l w) := by
  obtain ⟨si, st, sc, sd⟩ := s
  obtain ⟨hs1, hs2, hs3, hs4⟩ := hs
  simp only at hs1 hs2 hs3 hs4 ⊢
  have hbx := Blk.made w #[.int .u64 si, .int .u64 st, .int .u64 sc, .string sd] 39
  have hn := (Only.refl NoBlock w).alloc (Obj.cells #[.int .u64 si, .int .u64 st, .int .u64 sc, .string sd] 39)
  have hz1 : (w.alloc (Obj.cells #[.int .u64 si, .int .u64 st, .int .u64 sc, .string sd] 39)).heap.size = w.heap.size + 1 := by simp
  go_enter Try.func67, Try.ntmps67
  go_upto_region 1 with fail
  generalize w.alloc (Obj.cells #[.int .u64 si, .int .u64 st, .int .u64 sc, .string sd] 39) = w1 at hbx hn hz1 ⊢
  have b0 : w1.cell? ⟨w.heap.size, 0, none⟩ = some (.int .u64 si) := by rw [hbx.cell]; rfl
  have b1 : w1.cell? ⟨w.heap.size, 1, none⟩ = some (.int .u64 st) := by rw [hbx.cell]; rfl
  have b2 : w1.cell? ⟨w.heap.size, 2, none⟩ = some (.int .u64 sc) := by rw [hbx.cell]; rfl
  have b3 : w1.cell? ⟨w.heap.size, 3, none⟩ = some (.string sd) := by rw [hbx.cell]; rfl
  go_wp2_with fail
  refine (sound_at w1 sc (by omega)).mono ?_
  rintro e w2 ⟨rfl, rfl⟩
  cases hq : Qu.soundB sc with
  | false =>
    have HN := Lib.hid (Rl.newOk_cfg (s := ⟨si, st, sc, sd⟩) (l := l) hq)
    clear hq
    go_wp2_with fail
    go_ret2
    exact ⟨hn, .inr ⟨HN.out, rfl⟩⟩
  | true =>
    have HQ := Lib.hid hq
    clear hq
    go_upto_region 4 with fail
    have hg2 := Blk.made w1 #[.int .u64 si, .int .u64 st, .int .u64 sc, .string sd, .slice none 0 0] 157
    have hn2 := hn.alloc (Obj.cells #[.int .u64 si, .int .u64 st, .int .u64 sc, .string sd, .slice none 0 0] 157)
    rw [hz1] at hg2
    generalize w1.alloc (Obj.cells #[.int .u64 si, .int .u64 st, .int .u64 sc, .string sd, .slice none 0 0] 157) = w2 at hg2 hn2 ⊢
    have hR2 : RlogAt w2 w.heap.size (w.heap.size + 1) ⟨si, st, sc, sd⟩ [] := ⟨_, hg2, Ents.nil _ _⟩
    clear hbx hn hz1 b0 b1 b2 b3 hg2
    go_wp2_with fail
    go_loopw [20] (fun v20 wr => ∃ k : Nat, k ≤ l.length ∧ v20 = .int .i64 k ∧ RlogAt wr w.heap.size (w.heap.size + 1) ⟨si, st, sc, sd⟩ (l.take k) ∧ Only NoBlock w wr ∧ RowKit.Hid (Rl.chain si st (l.take k) = true)) (fun v20 _ => l.length - (intOf v20).toNat)
    case atStart => exact ⟨0, by omega, rfl, hR2, hn2, Lib.hid rfl⟩
    case round =>
      clear hR2 hn2
      obtain ⟨k, hk, rfl, hR, ho, HC⟩ := hrel
      by_cases hlt : k < l.length
      · obtain ⟨b, off, rfl, e0, e1, e2, e3⟩ := (hl.keeps ho (fun _ _ h => h)).cell k hlt
        have hwf := hl.at_wf hlt
        have hts : l.take (k + 1) = l.take k ++ [l.getD k Ent.zero] := by rw [List.take_add_one, List.getElem?_eq_getElem hlt, List.getD_eq_getElem?_getD, List.getElem?_eq_getElem hlt]; rfl
        have hnk : ∀ x, Rl.sound (l.getD k Ent.zero) (Rl.next (Rl.lastI ⟨si, st, sc, sd⟩ (l.take k))) (Rl.lastT ⟨si, st, sc, sd⟩ (l.take k)) = x → x = false → Rl.newOk ⟨si, st, sc, sd⟩ l = false := fun x h hx => Rl.newOk_no hlt (h.trans hx)
        have HNK := Lib.hid hnk
        have HTS := Lib.hid hts
        clear hnk hts
        generalize l.getD k Ent.zero = en at e0 e1 e2 e3 hwf HNK HTS
        go_upto_region 7 with fail
        have hbE := Blk.made wr #[.int .u64 en.term, .int .u64 en.index, .int .i64 en.kind, .string en.data] 77
        have hoE := ho.alloc (Obj.cells #[.int .u64 en.term, .int .u64 en.index, .int .i64 en.kind, .string en.data] 77)
        have hRE := hR.keeps ((Only.refl NoBlock wr).alloc (Obj.cells #[.int .u64 en.term, .int .u64 en.index, .int .i64 en.kind, .string en.data] 77)) (fun h => h) (fun _ h => h.elim)
        have hzE : wr.heap.size < (wr.alloc (Obj.cells #[.int .u64 en.term, .int .u64 en.index, .int .i64 en.kind, .string en.data] 77)).heap.size := by simp
        have hzw := ho.size
        generalize wr.heap.size = E at hbE hzE hzw ⊢
        generalize wr.alloc (Obj.cells #[.int .u64 en.term, .int .u64 en.index, .int .i64 en.kind, .string en.data] 77) = w3 at hbE hoE hRE hzE ⊢
        clear e0 e1 e2 e3 hR ho
        have htl : (l.take k).length ≤ 1000000000000 := by rw [List.length_take]; omega
        go_wp2_with fail
        refine (rloglast_at w3 _ _ _ _ hRE htl).mono ?_
        rintro e w4 ⟨rfl, q, rfl⟩
        have hR4 := hRE.keeps ((Only.refl NoBlock w3).drewN q) (fun h => h) (fun _ h => h.elim)
        have ho4 := hoE.drewN q
        have hb4 : Blk (w3.drewN q) E _ _ := hbE.drewN q
        clear hRE hoE hbE
        have hli : Rl.lastI ⟨si, st, sc, sd⟩ (l.take k) < 18446744073709551616 := by
          unfold Rl.lastI
          split
          · exact hs1
          next x hx => exact (hl.wf x (List.mem_of_mem_take (List.mem_of_getLast? hx))).index
        have hlt2 : Rl.lastT ⟨si, st, sc, sd⟩ (l.take k) < 18446744073709551616 := by
          unfold Rl.lastT
          split
          · exact hs2
          next x hx => exact (hl.wf x (List.mem_of_mem_take (List.mem_of_getLast? hx))).term
        have hcs := Rl.chain_snoc (l.take k) en si st
        have HCS : RowKit.Hid (Rl.chain si st (l.take k ++ [en]) = (Rl.chain si st (l.take k) && Rl.sound en (Rl.next (Rl.lastI ⟨si, st, sc, sd⟩ (l.take k))) (Rl.lastT ⟨si, st, sc, sd⟩ (l.take k)))) := Lib.hid hcs
        clear hcs
        generalize Rl.lastI ⟨si, st, sc, sd⟩ (l.take k) = li at hli HNK HCS ⊢
        generalize Rl.lastT ⟨si, st, sc, sd⟩ (l.take k) = lt at hlt2 HNK HCS ⊢
        generalize w3.drewN q = w4 at hR4 ho4 hb4 ⊢
        have x0 : w4.cell? ⟨E, 0, none⟩ = some (.int .u64 en.term) := by rw [hb4.cell]; rfl
        have x1 : w4.cell? ⟨E, 1, none⟩ = some (.int .u64 en.index) := by rw [hb4.cell]; rfl
        have x2 : w4.cell? ⟨E, 2, none⟩ = some (.int .i64 en.kind) := by rw [hb4.cell]; rfl
        have x3 : w4.cell? ⟨E, 3, none⟩ = some (.string en.data) := by rw [hb4.cell]; rfl
        have hnx : IntKind.u64.wrap ((li : Int) + 1) = ((Rl.next li : Nat) : Int) := by rw [IntKind.wrap_u64]; unfold Rl.next; omega
        have hnl : Rl.next li < 18446744073709551616 := by unfold Rl.next; omega
        go_wp2_with fail
        refine (soundent_at w4 en hwf (Rl.next li) lt hnl hlt2).mono ?_
        rintro ee w5 ⟨rfl, ho5⟩
        have hR5 := hR4.keeps ho5 (fun h => h) (fun _ h => h.elim)
        have hO5 := ho4.trans ho5
        have hb5 := hb4.keeps ho5 (fun h => h)
        clear x0 x1 x2 x3 hR4 ho4 hb4 ho5 hnx
        cases hsd : Rl.sound en (Rl.next li) lt with
        | false =>
          have HN := Lib.hid (HNK.out _ hsd rfl)
          clear hsd HNK
          go_wp2_with fail
          go_ret2
          exact ⟨hO5, .inr ⟨HN.out, rfl⟩⟩
        | true =>
          rw [hsd, HC.out] at HCS
          have HC2 : RowKit.Hid (Rl.chain si st (l.take k ++ [en]) = true) := HCS
          clear hsd HNK HCS hnl hli hlt2
          obtain ⟨v, hg5, he5⟩ := hR5
          obtain ⟨ao', cap', rfl⟩ := he5.shape
          have hlk : (l.take k).length = k := by rw [List.length_take]; omega
          rw [hlk] at he5 hg5
          have hlk2 : (l.take k ++ [en]).length = k + 1 := by rw [List.length_append, hlk]; rfl
          have HLK2 := Lib.hid hlk2
          have HLK := Lib.hid hlk
          clear hlk hlk2 htl
          have x0 : w5.cell? ⟨E, 0, none⟩ = some (.int .u64 en.term) := by rw [hb5.cell]; rfl
          have x1 : w5.cell? ⟨E, 1, none⟩ = some (.int .u64 en.index) := by rw [hb5.cell]; rfl
          have x2 : w5.cell? ⟨E, 2, none⟩ = some (.int .i64 en.kind) := by rw [hb5.cell]; rfl
          have x3 : w5.cell? ⟨E, 3, none⟩ = some (.string en.data) := by rw [hb5.cell]; rfl
          have c4 := hg5.cell 4
          have f4 := hg5.free 4
          simp only [List.getElem?_toArray, List.getElem?_cons_succ, List.getElem?_cons_zero] at c4
          have hGl := hg5.lt
          have hap := he5.apart hg5 (by decide)
          have hz5 := hO5.size
          go_upto_region 10 with fail
          go_region_law (refine step_append_ent _ rfl _ _ rfl w.heap.size _ (l.take k) en hwf w5.heap.size 1 rfl (he5.keeps (((Only.refl NoBlock _).alloc _).drew) (fun _ _ h => h)) rfl ?_ ?_ ?_ ?_ ?_ ?_ ?_; (exact (ent_made w5 en _).1); (exact (ent_made w5 en _).2.1); (exact (ent_made w5 en _).2.2.1); (exact (ent_made w5 en _).2.2.2); (rw [HLK.out]; omega); (simp; omega); intro v2 w6 he6 hg6; have hp6 : Blk w6 (w.heap.size + 1) _ _ := (hg6.block _ (by simp; omega) (fun e => hap e.symm)).trans (hg5.alloc _); have c6 := hp6.cell 4; have f6 := hp6.free 4; simp only [List.getElem?_toArray, List.getElem?_cons_succ, List.getElem?_cons_zero] at c6; obtain ⟨ao6, cap6, rfl⟩ := he6.shape; rw [HLK2.out] at he6)
          all_goals
            have hR6 : RlogAt (w6.setCell ⟨w.heap.size + 1, 4, none⟩ (.slice ao6 (k + 1) cap6)) w.heap.size (w.heap.size + 1) ⟨si, st, sc, sd⟩ (l.take (k + 1)) := by
              rw [HTS.out]
              refine ⟨_, hp6.setCell 4 _, Ents.keeps (S := fun k => k = w.heap.size + 1) he6 ((Only.refl (fun k => k = w.heap.size + 1) w6).setCell (p := ⟨w.heap.size + 1, 4, none⟩) (fun _ => rfl) _) ?_⟩
              intro j hj e
              subst e
              exact he6.apart hp6 (by decide) hj
            have hO6 : Only NoBlock w (w6.setCell ⟨w.heap.size + 1, 4, none⟩ (.slice ao6 (k + 1) cap6)) := by
              refine (((hO5.alloc _).drew).grown hg6 ?_).setCell (p := ⟨w.heap.size + 1, 4, none⟩) (fun h => absurd h (by simp)) _
              intro j hj hjl
              have h3 := (World.ownsRow.lt he5.1 j hj).1
              omega
            generalize w6.setCell ⟨w.heap.size + 1, 4, none⟩ (.slice ao6 (k + 1) cap6) = w7 at hR6 hO6 ⊢
            have HC3 : RowKit.Hid (Rl.chain si st (l.take (k + 1)) = true) := Lib.hid (by rw [HTS.out]; exact HC2.out)
            clear hp6 he6 hg6 c6 f6 he5 hg5 hb5 x0 x1 x2 x3 c4 f4 hap HC HC2 HTS
            go_wp2_with fail
            go_roundw
            case rel => exact ⟨k + 1, by omega, by go_num, hR6, hO6, HC3⟩
            case measure => simp [intOf]; omega
      · obtain rfl : k = l.length := by omega
        rw [List.take_length] at hR HC
        have hnew : Rl.newOk ⟨si, st, sc, sd⟩ l = true := by unfold Rl.newOk; rw [Bool.and_eq_true]; exact ⟨HQ.out, HC.out⟩
        have HN := Lib.hid hnew
        clear hnew HC HQ
        go_wp2_with fail
        go_ret2
        exact ⟨ho, .inl ⟨HN.out, _, rfl, Nat.le_succ _, hR⟩⟩

end Go.Proofs.Ytekmjhenhgmpgaa

/- A row of texts appended to a row of the call's own, whether there are any or none; where the new row lies. -/
namespace Go.Proofs.Ytekmjhenhgmpgaa
open Go.RowKit
set_option maxRecDepth 100000

theorem append_nothing {P : Program} {w : World} (base : Nat) (t ty e : TypeId) (i : TypeInfo) (size : Nat) (ht : P.underlying t = some (.slice e)) (hi : P.info? e = some i)
    (v : Value) (n : Nat) (xs : List Value) (hown : w.ownsRow base e size v n xs) (c : Nat) : (Builtin.append_ #[t, t] ty #[v, .slice none 0 c]).run P w = .ok v w := by
  rcases hown.2 with ⟨rfl, rfl⟩ | ⟨g, cap, cur, rfl, _, _, hnc, _⟩
  · simp [Builtin.append_, run_underlying ht, sizeOf, typeInfo, hi, Builtin.lenOf, Builtin.firstCells]
  · simp [Builtin.append_, run_underlying ht, sizeOf, typeInfo, hi, Builtin.lenOf, Builtin.firstCells, hnc, storeCells]

section
variable {ops : Array Oper} {rest : List Oper} {o : Oper} {a : Act} {Q : Exit → Act → World → Prop}
theorem wpList_append_texts (w : World) (hgd : o.guard = none) (s x : Operand) (ho : o.op = .call { callee := .builtin .append, args := #[s, x], argTypes := #[22, 22] })
    (base : Nat) (v : Value) (l m : List ByteArray) (ao : Option Addr) (k n : Nat) (hs : a.eval s = v) (hown : Strs w base v l) (hx : a.eval x = .slice ao k n) (hk : k = m.length) (hm : StrsIn w ao m)
    (hlen : l.length + m.length ≤ 8796093022208) (hbase : base ≤ w.heap.size)
    (h : ∀ v' w', Strs w' base v' (l ++ m) → w.grownBy w' v.ownBlock → (v'.ownBlock = v.ownBlock ∨ v'.ownBlock = some w.heap.size) → wpList Try.prog ops Q rest (a.put o.dst v') w') : wpList Try.prog ops Q (o :: rest) a w := by
  subst hk
  obtain ⟨i, hi, hz, hsz, hby⟩ := info_parts St.info
  refine wpList_plain hgd fun K hK => ?_
  unfold Oper.wp execOp
  simp only [ho, resolve, invoke, builtin, Sem.run_bind, Sem.run_pure, Result.andThen_ok, List.map_toArray, List.map_cons, List.map_nil, hs, hx]
  cases ao with
  | none =>
    have hm0 : m = [] := by
      cases m with
      | nil => rfl
      | cons y r => obtain ⟨b, off, e, _⟩ := hm.cell 0 (by simp); cases e
    subst hm0
    rw [show ([] : List ByteArray).length = 0 from rfl, append_nothing base 22 o.type 9 i 1 St.u_strings hi v l.length _ hown n]
    exact hK _ _ (h v w (by rw [List.append_nil]; exact hown) ⟨rfl, rfl, rfl, Nat.le_refl _, fun _ _ _ => rfl⟩ (.inl rfl))
  | some ad =>
    obtain ⟨v', w', hr, h2, h3, _, h5⟩ := run_append_own_at (P := Try.prog) w base 22 o.type 9 i (.string ByteArray.empty) 1 16 St.u_strings hi hz hsz hby rfl (by decide) v l.length _ hown ad m.length n (m.map Value.string) (by simp) (by
      intro j u hj
      have hj' : j < m.length := by have := (List.getElem?_eq_some_iff.1 hj).1; simpa using this
      obtain ⟨b, off, e, hc⟩ := hm.cell j hj'
      cases e
      rw [List.getElem?_map, List.getElem?_eq_getElem hj'] at hj
      cases hj
      rw [Addr.add_lit, hc, List.getD_eq_getElem?_getD, List.getElem?_eq_getElem hj']
      rfl) (by
      intro u hu
      obtain ⟨y, _, rfl⟩ := List.mem_map.1 hu
      rfl) (by unfold maxLen; omega) (by omega) hbase
    rw [hr]
    refine hK _ _ (h v' w' ?_ h3 h5)
    unfold Strs
    simpa using h2
end
end Go.Proofs.Ytekmjhenhgmpgaa

/- A row of entries appended to a row of the call's own. -/
namespace Go.Proofs.Ytekmjhenhgmpgaa
open Go.RowKit
set_option maxRecDepth 100000

theorem EntsIn.flat {w : World} {ad : Addr} {m : List Ent} (hm : EntsIn w (some ad) m) : ∀ j u, (m.flatMap Ent.cells)[j]? = some u → w.cell? (ad.add j) = some u := by
  intro j u hj
  have hj' : j < m.length * 4 := by have := (List.getElem?_eq_some_iff.1 hj).1; rw [flat_length] at this; exact this
  obtain ⟨b, off, e, h0, h1, h2, h3⟩ := hm.cell (j / 4) (by omega)
  cases e
  have hd : j = j / 4 * 4 + j % 4 := by omega
  have hr : j % 4 < 4 := Nat.mod_lt _ (by decide)
  generalize j / 4 = i at *
  generalize j % 4 = r at *
  subst hd
  rw [flat_get m i r (by omega) hr] at hj
  rw [Addr.add_lit, ← Nat.add_assoc]
  match r, hr with
  | 0, _ => cases hj; exact h0
  | 1, _ => cases hj; exact h1
  | 2, _ => cases hj; exact h2
  | 3, _ => cases hj; exact h3
theorem cells_one {m : List Ent} : ∀ u ∈ m.flatMap Ent.cells, u.oneCell' = true := by
  intro u hu
  obtain ⟨e, _, he⟩ := List.mem_flatMap.1 hu
  simp [Ent.cells] at he
  rcases he with rfl | rfl | rfl | rfl <;> rfl

section
variable {ops : Array Oper} {rest : List Oper} {o : Oper} {a : Act} {Q : Exit → Act → World → Prop}
theorem wpList_append_ents (w : World) (hgd : o.guard = none) (s x : Operand) (ho : o.op = .call { callee := .builtin .append, args := #[s, x], argTypes := #[40, 40] })
    (base : Nat) (v : Value) (l m : List Ent) (ao : Option Addr) (k n : Nat) (hs : a.eval s = v) (hown : Ents w base v l) (hx : a.eval x = .slice ao k n) (hk : k = m.length) (hm : EntsIn w ao m)
    (hlen : l.length + m.length ≤ 3518437208883) (hbase : base ≤ w.heap.size)
    (h : ∀ v' w', Ents w' base v' (l ++ m) → w.grownBy w' v.ownBlock → (v'.ownBlock = v.ownBlock ∨ v'.ownBlock = some w.heap.size) → wpList Try.prog ops Q rest (a.put o.dst v') w') : wpList Try.prog ops Q (o :: rest) a w := by
  subst hk
  obtain ⟨i, hi, hz, hsz, hby⟩ := info_parts En.info
  refine wpList_plain hgd fun K hK => ?_
  unfold Oper.wp execOp
  simp only [ho, resolve, invoke, builtin, Sem.run_bind, Sem.run_pure, Result.andThen_ok, List.map_toArray, List.map_cons, List.map_nil, hs, hx]
  have hwf : ∀ e ∈ l ++ m, e.Wf := by
    intro e he
    rcases List.mem_append.1 he with he | he
    · exact hown.2 e he
    · exact hm.wf e he
  cases ao with
  | none =>
    have hm0 : m = [] := by
      cases m with
      | nil => rfl
      | cons y r => obtain ⟨b, off, e, _⟩ := hm.cell 0 (by simp); cases e
    subst hm0
    rw [show ([] : List Ent).length = 0 from rfl, append_nothing base 40 o.type 77 i 4 En.u_ents hi v l.length _ hown.1 n]
    exact hK _ _ (h v w (by rw [List.append_nil]; exact hown) ⟨rfl, rfl, rfl, Nat.le_refl _, fun _ _ _ => rfl⟩ (.inl rfl))
  | some ad =>
    obtain ⟨v', w', hr, h2, h3, _, h5⟩ := run_append_own_at (P := Try.prog) w base 40 o.type 77 i _ 4 40 En.u_ents hi hz hsz hby rfl (by decide) v l.length _ hown.1 ad m.length n (m.flatMap Ent.cells) (flat_length m) hm.flat cells_one (by unfold maxLen; omega) (by omega) hbase
    rw [hr]
    refine hK _ _ (h v' w' ⟨?_, hwf⟩ h3 h5)
    rw [List.flatMap_append, List.length_append]
    exact h2
end
end Go.Proofs.Ytekmjhenhgmpgaa

/- Cutting a row: the operation xs[l:], xs[:h], xs[l:h] at elements of one cell, whether its room is used up or not. -/
namespace Go.Proofs.Ytekmjhenhgmpgaa
open Go.RowKit

/-- where a cut row lies -/
def cutAddr (ao : Option Addr) (l cap s : Nat) : Option Addr := if cap = l then ao else ao.map (·.add (l * s))
theorem cutAddr_zero (ao : Option Addr) (cap s : Nat) : cutAddr ao 0 cap s = ao := by
  unfold cutAddr
  split
  · rfl
  · cases ao with
    | none => rfl
    | some a => simp only [Option.map_some, Nat.zero_mul]; obtain ⟨b, off, sp⟩ := a; cases sp <;> rfl

section
variable {P : Program} {ops : Array Oper} {rest : List Oper} {o : Oper} {a : Act} {Q : Exit → Act → World → Prop}
theorem wpList_slice_l (w : World) (hg : o.guard = none) (t : TypeId) (x l : Operand) (ho : o.op = .slice t x (some l) none none) (s : Nat)
    (ht : P.underlying t = some (.slice (P.elem t))) (hz : ∀ w, (sizeOf (P.elem t)).run P w = .ok s w)
    (ao : Option Addr) (n cap k : Nat) (kk : IntKind) (hx : a.eval x = .slice ao n cap) (hl : a.eval l = .int kk (k : Int)) (hk : k ≤ n)
    (h : wpList P ops Q rest (a.put o.dst (.slice (cutAddr ao k cap s) (n - k) (cap - k))) w) : wpList P ops Q (o :: rest) a w := by
  refine wpList_plain hg fun K hK => ?_
  have hrun := run_slice_l (P := P) (w := w) t ao n cap ht kk (k : Int) (by omega) (by omega)
  unfold Oper.wp
  simp only [execOp, ho, Sem.run_bind, Sem.run_pure, Option.map_some, Option.map_none, hx, hl, run_sliceAt_slice (w := w) t _ _ _ _ ht, hrun, hz, Result.andThen, Int.toNat_natCast]
  exact hK _ _ h
theorem wpList_slice_h (w : World) (hg : o.guard = none) (t : TypeId) (x u : Operand) (ho : o.op = .slice t x none (some u) none) (s : Nat)
    (ht : P.underlying t = some (.slice (P.elem t))) (hz : ∀ w, (sizeOf (P.elem t)).run P w = .ok s w)
    (ao : Option Addr) (n cap k : Nat) (kk : IntKind) (hx : a.eval x = .slice ao n cap) (hl : a.eval u = .int kk (k : Int)) (hk : k ≤ cap)
    (h : wpList P ops Q rest (a.put o.dst (.slice ao k cap)) w) : wpList P ops Q (o :: rest) a w := by
  refine wpList_plain hg fun K hK => ?_
  have hrun := run_slice_h (P := P) (w := w) t ao n cap ht kk (k : Int) (by omega) (by omega)
  unfold Oper.wp
  simp only [execOp, ho, Sem.run_bind, Sem.run_pure, Option.map_some, Option.map_none, hx, hl, run_sliceAt_slice (w := w) t _ _ _ _ ht, hrun, hz, Result.andThen]
  have e : sliced ao 0 k cap s = .slice ao k cap := by
    have := cutAddr_zero ao cap s
    unfold cutAddr at this
    unfold sliced
    rw [this, Nat.sub_zero, Nat.sub_zero]
  simp only [Int.toNat_natCast, e]
  exact hK _ _ h
theorem wpList_slice_lh (w : World) (hg : o.guard = none) (t : TypeId) (x l u : Operand) (ho : o.op = .slice t x (some l) (some u) none) (s : Nat)
    (ht : P.underlying t = some (.slice (P.elem t))) (hz : ∀ w, (sizeOf (P.elem t)).run P w = .ok s w)
    (ao : Option Addr) (n cap k m : Nat) (kk km : IntKind) (hx : a.eval x = .slice ao n cap) (hl : a.eval l = .int kk (k : Int)) (hu : a.eval u = .int km (m : Int)) (hk : k ≤ m) (hm : m ≤ cap)
    (h : wpList P ops Q rest (a.put o.dst (.slice (cutAddr ao k cap s) (m - k) (cap - k))) w) : wpList P ops Q (o :: rest) a w := by
  refine wpList_plain hg fun K hK => ?_
  have hrun := run_slice_lh (P := P) (w := w) t ao n cap ht kk km (k : Int) (m : Int) (by omega) (by omega) (by omega)
  unfold Oper.wp
  simp only [execOp, ho, Sem.run_bind, Sem.run_pure, Option.map_some, Option.map_none, hx, hl, hu, run_sliceAt_slice (w := w) t _ _ _ _ ht, hrun, hz, Result.andThen, Int.toNat_natCast]
  exact hK _ _ h
end
end Go.Proofs.Ytekmjhenhgmpgaa
