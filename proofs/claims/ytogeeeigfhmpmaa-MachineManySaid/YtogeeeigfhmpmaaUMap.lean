/- Maps from numbers of 64 bits to values of a kind, as functions: made, looked up, stored, counted, ranged over. Over any program. -/
import Derived.Test.YtogeeeigfhmpmaaBase
namespace Go.Proofs.Ytogeeeigfhmpmaa
open Go.RowKit Go.Maps

/-- a kind of values that a map holds -/
structure MK (V : Type) where
  val : V → Value
  dat : V → DataW Unit
  rd : Value → Option (DataW Unit × List MemPlace)
  zero : V
  rdv : ∀ x, rd (val x) = some (dat x, [])
  inv : ∀ v y, rd v = some y → ∃ x, v = val x ∧ y = (dat x, [])
  inj : ∀ x y, dat x = dat y → x = y

def uput {V : Type} (F : Nat → Option V) (n : Nat) (x : V) : Nat → Option V := fun i => if i = n then some x else F i
structure UReads {V : Type} (M : MK V) (D : DataW Unit) (F : Nat → Option V) (n : Nat) : Prop where
  keys : ∀ kl, Maps.has D kl = true → ∃ x : Nat, kl = .int .u64 x ∧ x < 18446744073709551616
  has : ∀ x : Nat, Maps.has D (.int .u64 x) = (F x).isSome
  val : ∀ (x : Nat) f, F x = some f → ∀ z, D.atKey (.int .u64 x) z = M.dat f
  size : Maps.size D = n
/-- block b is a map of n entries that holds just these -/
def UMapAt {V : Type} (M : MK V) (P : Program) (k : TypeId) (w : World) (b : Nat) (F : Nat → Option V) (n : Nat) : Prop := ∃ D, w.ownsMap P k M.rd b n D ∧ UReads M D F n

theorem wf_u64n {x : Nat} (h : x < 18446744073709551616) : (Lit.int .u64 x).wf = true := WalkArith.wf_u64 (by omega)
theorem wf_u64_inv {x : Int} (h : (Lit.int .u64 x).wf = true) : 0 ≤ x ∧ x < 18446744073709551616 := by
  simp only [Lit.wf, Bool.and_eq_true, decide_eq_true_eq] at h
  have h1 : (0 : Int) ≤ x := h.1
  have h2 : x ≤ 18446744073709551615 := h.2
  omega
section
variable {V : Type} {M : MK V} {P : Program} {k t e : TypeId} {w w' : World} {b n : Nat} {F : Nat → Option V}
theorem UMapAt.made (M : MK V) (P : Program) (k : TypeId) (w : World) : UMapAt M P k (w.alloc (.map #[] 0)) w.heap.size (fun _ => none) 0 :=
  ⟨.map [], World.ownsMap_made w P k M.rd, ⟨fun kl h => by simp [Maps.has] at h, fun x => rfl, fun x f h => (by cases h), rfl⟩⟩
theorem UMapAt.lt (h : UMapAt M P k w b F n) : b < w.heap.size := by obtain ⟨D, h, _⟩ := h; exact h.lt
theorem UMapAt.keeps {S : Nat → Prop} (h : UMapAt M P k w b F n) (ho : Only S w w') (hs : ¬ S b) : UMapAt M P k w' b F n := by
  obtain ⟨D, ⟨es, clock, hb, r⟩, hr⟩ := h
  exact ⟨D, ⟨es, clock, ho.keeps hs hb, r⟩, hr⟩
theorem UMapAt.ne_cells (h : UMapAt M P k w b F n) {p : Nat} {cs : Array Value} {T : TypeId} {r : Nat × Nat} (hb : w.heap[p]? = some (.cells cs T r)) : b ≠ p := by
  rintro rfl
  obtain ⟨D, ⟨es, clock, hm, _⟩, _⟩ := h
  rw [hm] at hb
  cases hb
theorem UMapAt.range (h : UMapAt M P k w b F n) {x : Nat} {f : V} (hf : F x = some f) : x < 18446744073709551616 := by
  obtain ⟨D, _, hr⟩ := h
  obtain ⟨y, e, hy⟩ := hr.keys (.int .u64 x) (by rw [hr.has, hf]; rfl)
  have : (x : Int) = (y : Int) := by cases e; rfl
  omega
theorem UReads.at_ {D : DataW Unit} (hr : UReads M D F n) {v : Value} {ps : List MemPlace} {x : Nat} (hv : M.rd v = some (D.atKey (.int .u64 x) (M.dat M.zero), ps)) : v = M.val ((F x).getD M.zero) := by
  obtain ⟨f, rfl, hf⟩ := M.inv _ _ hv
  have hf1 : D.atKey (.int .u64 x) (M.dat M.zero) = M.dat f := congrArg Prod.fst hf
  cases hx : F x with
  | none =>
    have : Maps.has D (.int .u64 x) = false := by rw [hr.has x, hx]; rfl
    rw [atKey_of_not_has this] at hf1
    rw [← M.inj _ _ hf1]; rfl
  | some g =>
    rw [hr.val x g hx] at hf1
    rw [← M.inj _ _ hf1]; rfl
theorem UMapAt.look (h : UMapAt M P k w b F n) (K : Keyed P k) (hk : P.underlying k = some (.int .u64)) (ht : P.underlying t = some (.map k e)) (hz : (zeroValue e).run P w = .ok (M.val M.zero) w) {x : Nat} (hx : x < 18446744073709551616) :
    (Instr.lookup t (.map (some b)) (.int .u64 x) true).run P w = .ok (.tuple #[M.val ((F x).getD M.zero), .bool (F x).isSome]) w := by
  obtain ⟨D, hown, hr⟩ := h
  obtain ⟨v, ps, hrun, hv⟩ := hown.look_ok K ht hz (M.rdv M.zero) (keyOf_int_mk hk (wf_u64n hx))
  rw [hrun, hr.has x, hr.at_ hv]
theorem UMapAt.look1 (h : UMapAt M P k w b F n) (K : Keyed P k) (hk : P.underlying k = some (.int .u64)) (ht : P.underlying t = some (.map k e)) (hz : (zeroValue e).run P w = .ok (M.val M.zero) w) {x : Nat} (hx : x < 18446744073709551616) :
    (Instr.lookup t (.map (some b)) (.int .u64 x) false).run P w = .ok (M.val ((F x).getD M.zero)) w := by
  obtain ⟨D, hown, hr⟩ := h
  obtain ⟨v, ps, hrun, hv⟩ := hown.lookup K ht hz (M.rdv M.zero) (keyOf_int_mk hk (wf_u64n hx))
  rw [hrun, hr.at_ hv]
theorem UReads.put {D : DataW Unit} (h : UReads M D F n) (hD : Tidy D) {x : Nat} (hx : x < 18446744073709551616) (f : V) : UReads M (D.put (.int .u64 x) (M.dat f)) (uput F x f) (if (F x).isSome = true then n else n + 1) := by
  have hk : WideAt.IsKeyLit (.int .u64 x) := trivial
  have hne : ∀ y : Nat, y ≠ x → (Lit.int .u64 (y : Int)) ≠ .int .u64 (x : Int) := fun y hy e => hy (by cases e; rfl)
  refine ⟨fun kl hkl => ?_, fun y => ?_, fun y g hg z => ?_, ?_⟩
  · by_cases e : kl = .int .u64 x
    · exact ⟨x, e, hx⟩
    · rw [has_put_other e] at hkl
      exact h.keys kl hkl
  · unfold uput
    by_cases e : y = x
    · subst e; rw [has_put_same hD.isMap hk]; simp
    · rw [has_put_other (hne y e), if_neg e]; exact h.has y
  · unfold uput at hg
    by_cases e : y = x
    · subst e; simp at hg; subst hg; exact atKey_put_same hD.isMap hk _ _
    · rw [if_neg e] at hg; rw [atKey_put_other (hne y e)]; exact h.val y g hg z
  · rw [size_put hD, h.has x, h.size]
theorem UMapAt.store (h : UMapAt M P k w b F n) (K : Keyed P k) (hk : P.underlying k = some (.int .u64)) (ht : P.underlying t = some (.map k e)) (hn : n ≤ 1000000) {x : Nat} (hx : x < 18446744073709551616) (f : V) :
    ∃ w', (Instr.mapUpdate t (.map (some b)) (.int .u64 x) (M.val f)).run P w = .ok () w' ∧ UMapAt M P k w' b (uput F x f) (if (F x).isSome = true then n else n + 1) ∧ w.grownBy w' (some b) := by
  obtain ⟨D, hown, hr⟩ := h
  obtain ⟨w', hrun, hown', ht'⟩ := hown.store K ht (by unfold maxLen; omega) (keyOf_int_mk hk (wf_u64n hx)) (M.rdv f)
  have hr' := hr.put (hown.tidy K) hx f
  refine ⟨w', hrun, ⟨_, ?_, hr'⟩, ht'.grown⟩
  obtain ⟨es, clock, hb, Ft, hs, hD⟩ := hown'
  refine ⟨es, clock, hb, Ft, ?_, hD⟩
  have h2 := hr'.size
  rw [hD] at h2
  rw [← h2]
  simp [Maps.size, length_sorted]
theorem UMapAt.len (h : UMapAt M P k w b F n) (ht : P.underlying t = some (.map k e)) (ty : TypeId) : (Builtin.len_ #[t] ty #[.map (some b)]).run P w = .ok (.int .i64 n) w := by
  obtain ⟨D, hown, hr⟩ := h
  rw [hown.len ht ty, hr.size]
variable {ops : Array Oper} {rest : List Oper} {o : Oper} {a : Act} {Q : Exit → Act → World → Prop}
/-- 'm[x]' -/
theorem wpList_ulook1 (hg : o.guard = none) (m y : Operand) (t : TypeId) (hop : o.op = Op.lookup t m y false) (K : Keyed P k) (hk : P.underlying k = some (.int .u64)) (ht : P.underlying t = some (.map k e)) (hz : ∀ w, (zeroValue e).run P w = .ok (M.val M.zero) w)
    (h : UMapAt M P k w b F n) (hm : a.eval m = .map (some b)) (x : Nat) (hx : a.eval y = .int .u64 x) (hn : x < 18446744073709551616) (v : Value) (hv : M.val ((F x).getD M.zero) = v)
    (hK : wpList P ops Q rest (a.put o.dst v) w) : wpList P ops Q (o :: rest) a w := by
  refine wpList_plain hg fun K' hK' => ?_
  have hrun := h.look1 K hk ht (hz w) hn
  rw [hv] at hrun
  unfold Oper.wp
  simp [execOp, hop, hm, hx, hrun, Result.andThen]
  exact hK' _ _ hK
/-- 'v, ok := m[x]' -/
theorem wpList_ulook (hg : o.guard = none) (m y : Operand) (t : TypeId) (hop : o.op = Op.lookup t m y true) (K : Keyed P k) (hk : P.underlying k = some (.int .u64)) (ht : P.underlying t = some (.map k e)) (hz : ∀ w, (zeroValue e).run P w = .ok (M.val M.zero) w)
    (h : UMapAt M P k w b F n) (hm : a.eval m = .map (some b)) (x : Nat) (hx : a.eval y = .int .u64 x) (hn : x < 18446744073709551616) (v : Value) (hv : M.val ((F x).getD M.zero) = v) (there : Bool) (hth : (F x).isSome = there)
    (hK : wpList P ops Q rest (a.put o.dst (.tuple #[v, .bool there])) w) : wpList P ops Q (o :: rest) a w := by
  refine wpList_plain hg fun K' hK' => ?_
  have hrun := h.look K hk ht (hz w) hn
  rw [hv, hth] at hrun
  unfold Oper.wp
  simp [execOp, hop, hm, hx, hrun, Result.andThen]
  exact hK' _ _ hK
/-- 'm[x] = f' -/
theorem wpList_ustore (hg : o.guard = none) (m y v : Operand) (t : TypeId) (hop : o.op = Op.mapUpdate t m y v) (K : Keyed P k) (hk : P.underlying k = some (.int .u64)) (ht : P.underlying t = some (.map k e))
    (h : UMapAt M P k w b F n) (hn : n ≤ 1000000) (hm : a.eval m = .map (some b)) (x : Nat) (hx : a.eval y = .int .u64 x) (hlt : x < 18446744073709551616) (f : V) (hv : a.eval v = M.val f)
    (hK : ∀ w', UMapAt M P k w' b (uput F x f) (if (F x).isSome = true then n else n + 1) → w.grownBy w' (some b) → wpList P ops Q rest (a.put o.dst undef) w') : wpList P ops Q (o :: rest) a w := by
  refine wpList_plain hg fun K' hK' => ?_
  obtain ⟨w', hrun, r1, r2⟩ := h.store K hk ht hn hlt f
  unfold Oper.wp
  simp [execOp, hop, hm, hx, hv, hrun, Result.andThen]
  exact hK' _ _ (hK w' r1 r2)
/-- 'len(m)' -/
theorem wpList_ulen (hg : o.guard = none) (m : Operand) (t : TypeId) (hop : o.op = Op.call { callee := Callee.builtin Builtin.len, args := #[m], argTypes := #[t] }) (ht : P.underlying t = some (.map k e))
    (h : UMapAt M P k w b F n) (hm : a.eval m = .map (some b)) (hK : wpList P ops Q rest (a.put o.dst (.int .i64 n)) w) : wpList P ops Q (o :: rest) a w := by
  refine wpList_plain hg fun K' hK' => ?_
  unfold Oper.wp
  simp [execOp, hop, resolve, invoke, builtin, hm, h.len ht o.type, Result.andThen]
  exact hK' _ _ hK

/-- a loop over the map: what is still to come -/
structure UGoing (M : MK V) (P : Program) (k : TypeId) (w : World) (b r : Nat) (F : Nat → Option V) (L : Nat → Bool) (cnt : Nat) : Prop where
  going : ∃ (D : DataW Unit) (n : Nat) (left : Lit → Bool), w.ranges P k M.rd b r n D left cnt ∧ UReads M D F n ∧ ∀ x : Nat, left (.int .u64 x) = L x
theorem UGoing.keeps {r cnt : Nat} {L : Nat → Bool} (h : UGoing M P k w b r F L cnt) (ho : Only NoBlock w w') : UGoing M P k w' b r F L cnt := by
  obtain ⟨D, n, left, h1, h2, h3⟩ := h
  exact ⟨D, n, left, h1.kept ho.grownBy (by simp) (by simp), h2, h3⟩
theorem UGoing.keepsG {r cnt : Nat} {L : Nat → Bool} {row : Option Nat} (h : UGoing M P k w b r F L cnt) (hg : w.grownBy w' row) (h1 : some b ≠ row) (h2 : some r ≠ row) : UGoing M P k w' b r F L cnt := by
  obtain ⟨D, n, left, h1', h2', h3⟩ := h
  exact ⟨D, n, left, h1'.kept hg h1 h2, h2', h3⟩
theorem UGoing.keepsS {r cnt : Nat} {L : Nat → Bool} (h : UGoing M P k w b r F L cnt) (B : Nat) (v : Value) (h1 : B ≠ b) (h2 : r ≠ B) : UGoing M P k (w.setCell ⟨B, 0, none⟩ v) b r F L cnt := by
  have hO := (Only.refl (fun k => k = B) w).setCell (p := ⟨B, 0, none⟩) (fun _ => rfl) v
  exact h.keepsG (row := some B) ⟨hO.os, hO.tape, hO.output, hO.size, fun k hk hn => hO.block k hk (fun e => hn (by rw [e]))⟩ (fun e => h1 (by cases e; rfl)) (fun e => h2 (by cases e; rfl))
theorem UGoing.left_eq {r cnt : Nat} {L : Nat → Bool} (h : UGoing M P k w b r F L cnt) : w.rangeLeft b r = cnt := by obtain ⟨D, n, left, h, _⟩ := h; exact h.left_eq
theorem UGoing.lt {r cnt : Nat} {L : Nat → Bool} (h : UGoing M P k w b r F L cnt) : r < w.heap.size ∧ b < w.heap.size := by obtain ⟨D, n, left, h, _⟩ := h; exact ⟨h.lt, h.owns.lt⟩
theorem wpList_urange (hg : o.guard = none) (m : Operand) (t : TypeId) (hop : o.op = Op.range t m) (K : Keyed P k) (ht : P.underlying t = some (.map k e)) (hm : a.eval m = .map (some b)) (h : UMapAt M P k w b F n)
    (hK : ∀ w', UGoing M P k w' b w.heap.size F (fun x => (F x).isSome) n → Only NoBlock w w' → w'.heap.size = w.heap.size + 1 → wpList P ops Q rest (a.put o.dst (.pointer (some ⟨w.heap.size, 0, none⟩))) w') : wpList P ops Q (o :: rest) a w := by
  obtain ⟨D, hown, hr⟩ := h
  refine wpList_range_own w hg m t hop k e K ht M.rd b n D hm hown (fun w' h1 h2 h3 => ?_)
  rw [hr.size] at h1
  exact hK w' ⟨D, n, _, h1, hr, fun x => hr.has x⟩ ((Only.of_grown h2).mono (fun k hk => by cases hk)) h3
theorem wpList_unext {r cnt : Nat} {L : Nat → Bool} (hg : o.guard = none) (it : Operand) (hop : o.op = Op.next it false) (K : Keyed P k) (hk : P.underlying k = some (.int .u64)) (hit : a.eval it = .pointer (some ⟨r, 0, none⟩)) (h : UGoing M P k w b r F L cnt)
    (hDone : (∀ x, L x = false) → wpList P ops Q rest (a.put o.dst (.tuple #[.bool false])) w)
    (hMore : ∀ (x : Nat) (f : V) (w' : World) (cnt' : Nat), x < 18446744073709551616 → F x = some f → L x = true → UGoing M P k w' b r F (fun z => L z && !decide (z = x)) cnt' → cnt' < cnt → Only (fun k => k = r) w w' → w'.heap.size = w.heap.size →
      (Instr.entry (.pointer (some ⟨r, 0, none⟩))).run P w' = .ok (.tuple #[.int .u64 x, M.val f]) w' → wpList P ops Q rest (a.put o.dst (.tuple #[.bool true, .int .u64 x, M.val f])) w') : wpList P ops Q (o :: rest) a w := by
  obtain ⟨D, n, left, h1, h2, h3⟩ := h
  refine wpList_next_ranges w hg it hop k K M.rd (fun x : Int => Value.int .u64 x) M.val (fun key kl hkey => by obtain ⟨x, rfl, _⟩ := Maps.keyOf_int_inv hk hkey; exact ⟨x, rfl⟩) (fun v y hv => by obtain ⟨c, rfl, _⟩ := M.inv v y hv; exact ⟨c, rfl⟩) b r n D left cnt hit h1 ?_ ?_
  · intro _ hl
    exact hDone (fun x => by rw [← h3]; exact hl _)
  · intro x f kl y w' cnt' hkey hlk hv hat hrg hlt hgr hsz hen
    obtain ⟨x', ex, rfl, hwx⟩ := Maps.keyOf_int_inv hk hkey
    cases ex
    obtain ⟨hx0, hx1⟩ := wf_u64_inv hwx
    obtain ⟨j, rfl⟩ : ∃ j : Nat, x = j := ⟨x.toNat, by omega⟩
    obtain ⟨f2, ef, rfl⟩ := M.inv _ _ hv
    have hff : D.atKey (.int .u64 j) (M.dat f2) = M.dat f2 := hat _
    have hrd : M.rd (M.val f) = some (M.dat f, []) := M.rdv f
    have hdd : M.dat f2 = M.dat f := by rw [hrd] at hv; exact (congrArg Prod.fst (Option.some.inj hv)).symm
    have hFj : F j = some f := by
      cases hF : F j with
      | none =>
        exfalso
        have hhas : Maps.has D (.int .u64 j) = false := by rw [h2.has, hF]; rfl
        have e1 : D.atKey (.int .u64 j) (.lit (.bool true)) = M.dat f2 := hat _
        have e2 : D.atKey (.int .u64 j) (.lit (.bool false)) = M.dat f2 := hat _
        rw [atKey_of_not_has hhas] at e1 e2
        rw [← e2] at e1
        cases e1
      | some g =>
        have := h2.val j g hF (M.dat f2)
        rw [hff, hdd] at this
        rw [M.inj _ _ this]
    refine hMore j f w' cnt' (by omega) hFj (by rw [← h3]; exact hlk) ⟨D, n, _, hrg, h2, fun z => ?_⟩ hlt ⟨hgr.os, hgr.tape, hgr.output, hgr.size, fun i hi hne => hgr.block i hi (fun e => hne (by cases e; rfl))⟩ hsz hen
    rw [h3]
    congr 1
    by_cases e : z = j
    · subst e; simp [WideAt.sameKey_self (show WideAt.IsKeyLit (.int .u64 (z : Int)) from trivial)]
    · have : (Lit.int .u64 (z : Int)).sameKey (.int .u64 (j : Int)) = false := by
        cases hs : (Lit.int .u64 (z : Int)).sameKey (.int .u64 (j : Int)) with
        | false => rfl
        | true =>
          have := WideAt.sameKey_eq hs
          exact absurd (by cases this; rfl) e
      simp [this, e]
end
end Go.Proofs.Ytogeeeigfhmpmaa
