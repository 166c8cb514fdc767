/- A map of files (two texts each) by number 0 to 15, as a function of the number: what looking up, storing, deleting and ranging do to it. Over any program whose type k is int and whose type e is the struct of two texts. -/
import Derived.Test.YtekmjhenhgmpgaaBase
namespace Go.Proofs.Ytekmjhenhgmpgaa
open Go.RowKit Go.Maps

abbrev File := ByteArray × ByteArray
def noFile : File := (ByteArray.empty, ByteArray.empty)
def fileV (f : File) : Value := .agg #[.string f.1, .string f.2]
def fileD (f : File) : DataW Unit := .agg [.lit (.string f.1.data.toList), .lit (.string f.2.data.toList)]
def fileR : Value → Option (DataW Unit × List MemPlace)
  | .agg cs => match cs.toList with
    | [.string a, .string b] => some (fileD (a, b), [])
    | _ => none
  | _ => none

theorem ba_ext {a b : ByteArray} (h : a.data.toList = b.data.toList) : a = b := by
  cases a; cases b; simp at h; simpa using h
theorem fileR_mk (f : File) : fileR (fileV f) = some (fileD f, []) := rfl
theorem fileD_inj {f g : File} (h : fileD f = fileD g) : f = g := by
  unfold fileD at h
  simp at h
  obtain ⟨h1, h2⟩ := h
  cases f; cases g
  simp at h1 h2 ⊢
  exact ⟨ba_ext (by simp [h1]), ba_ext (by simp [h2])⟩
theorem fileR_inv {v : Value} {y : DataW Unit × List MemPlace} (h : fileR v = some y) : ∃ f, v = fileV f ∧ y = (fileD f, []) := by
  unfold fileR at h
  split at h
  · rename_i cs
    split at h
    · rename_i a b hc
      refine ⟨(a, b), ?_, by cases h; rfl⟩
      unfold fileV
      congr 1
      cases cs; simpa using hc
    · cases h
  · cases h

/-- files by number -/
abbrev Fs := Int → Option File
def Fs.put (F : Fs) (n : Int) (f : File) : Fs := fun i => if i = n then some f else F i
def Fs.del (F : Fs) (n : Int) : Fs := fun i => if i = n then none else F i

structure Reads (D : DataW Unit) (F : Fs) : Prop where
  keys : ∀ kl, Maps.has D kl = true → ∃ x : Int, kl = .int .i64 x ∧ 0 ≤ x ∧ x < 16
  has : ∀ x : Int, Maps.has D (.int .i64 x) = (F x).isSome
  val : ∀ (x : Int) f, F x = some f → ∀ z, D.atKey (.int .i64 x) z = fileD f

/-- block b is a map that holds just these files -/
def FilesAt (P : Program) (k : TypeId) (w : World) (b : Nat) (F : Fs) : Prop := ∃ D, w.ownsMap P k fileR b 16 D ∧ Reads D F

theorem Reads.range {D : DataW Unit} {F : Fs} (h : Reads D F) {x : Int} {f : File} (hf : F x = some f) : 0 ≤ x ∧ x < 16 := by
  have := h.has x
  rw [hf] at this
  obtain ⟨y, e, h0, h1⟩ := h.keys _ this
  cases e
  exact ⟨h0, h1⟩

theorem wf_small {x : Int} (h0 : 0 ≤ x) (h1 : x < 16) : (Lit.int .i64 x).wf = true := WalkArith.wf_i64 (by omega)

theorem Reads.put {D : DataW Unit} {F : Fs} (h : Reads D F) (hD : IsMap D) {n : Int} (h0 : 0 ≤ n) (h1 : n < 16) (f : File) : Reads (D.put (.int .i64 n) (fileD f)) (F.put n f) := by
  have hk : WideAt.IsKeyLit (.int .i64 n) := trivial
  have hne : ∀ x : Int, x ≠ n → (Lit.int .i64 x) ≠ .int .i64 n := fun x hx e => hx (by cases e; rfl)
  refine ⟨fun kl hkl => ?_, fun x => ?_, fun x g hg z => ?_⟩
  · by_cases e : kl = .int .i64 n
    · exact ⟨n, e, h0, h1⟩
    · rw [has_put_other e] at hkl
      exact h.keys kl hkl
  · unfold Fs.put
    by_cases e : x = n
    · subst e; rw [has_put_same hD hk]; simp
    · rw [has_put_other (hne x e), if_neg e]; exact h.has x
  · unfold Fs.put at hg
    by_cases e : x = n
    · subst e; simp at hg; subst hg; exact atKey_put_same hD hk _ _
    · rw [if_neg e] at hg; rw [atKey_put_other (hne x e)]; exact h.val x g hg z

theorem Reads.del {D : DataW Unit} {F : Fs} (h : Reads D F) (n : Int) : Reads (D.del (.int .i64 n)) (F.del n) := by
  have hne : ∀ x : Int, x ≠ n → (Lit.int .i64 x) ≠ .int .i64 n := fun x hx e => hx (by cases e; rfl)
  refine ⟨fun kl hkl => ?_, fun x => ?_, fun x g hg z => ?_⟩
  · by_cases e : kl = .int .i64 n
    · subst e; rw [has_del_same] at hkl; cases hkl
    · rw [has_del_other e] at hkl
      exact h.keys kl hkl
  · unfold Fs.del
    by_cases e : x = n
    · subst e; rw [has_del_same]; simp
    · rw [has_del_other (hne x e), if_neg e]; exact h.has x
  · unfold Fs.del at hg
    by_cases e : x = n
    · subst e; simp at hg
    · rw [if_neg e] at hg; rw [atKey_del_other (hne x e)]; exact h.val x g hg z

/-! ### at most sixteen -/
theorem few_keys : ∀ (m : Nat) (l : List Int), l.Pairwise (· ≠ ·) → (∀ x ∈ l, 0 ≤ x ∧ x < (m : Int)) → l.length ≤ m
  | 0, l, _, h => by
    cases l with
    | nil => simp
    | cons x r => have := h x (by simp); omega
  | m + 1, l, hp, h => by
    have hf : (l.filter (fun x => x ≠ (m : Int))).length ≤ m := by
      refine few_keys m _ (hp.filter _) (fun x hx => ?_)
      have h1 := List.mem_filter.1 hx
      have h2 := h x h1.1
      have h3 : x ≠ (m : Int) := by simpa using h1.2
      omega
    have hc : l.length ≤ (l.filter (fun x => x ≠ (m : Int))).length + 1 := by
      clear hf h
      induction l with
      | nil => simp
      | cons x r ih =>
        have hx := List.pairwise_cons.1 hp
        by_cases e : x = (m : Int)
        · have hr : r.filter (fun x => x ≠ (m : Int)) = r := by
            rw [List.filter_eq_self]
            intro y hy
            have := hx.1 y hy
            simp
            omega
          rw [List.filter_cons]
          simp only [e, ne_eq, not_true_eq_false, decide_false, Bool.false_eq_true, if_false]
          rw [hr]
          simp
        · have := ih hx.2
          rw [List.filter_cons, if_pos (by simpa using e), List.length_cons, List.length_cons]
          omega
    omega

theorem size_small {D : DataW Unit} (hD : ∃ es, D = .map es ∧ es.Pairwise (fun p q => p.1 ≠ q.1) ∧ ∀ p ∈ es, WideAt.IsKeyLit p.1) (hk : ∀ kl, Maps.has D kl = true → ∃ x : Int, kl = .int .i64 x ∧ 0 ≤ x ∧ x < 16) : Maps.size D ≤ 16 := by
  obtain ⟨es, rfl, hp, hq⟩ := hD
  have hkey : ∀ p ∈ es, ∃ x : Int, p.1 = .int .i64 x ∧ 0 ≤ x ∧ x < 16 := fun p hp' =>
    hk p.1 (by rw [has_eq, List.any_eq_true]; exact ⟨p, hp', WideAt.sameKey_self (hq p hp')⟩)
  let g : Lit × DataW Unit → Int := fun p => match p.1 with | .int _ x => x | _ => 0
  have h1 := few_keys 16 (es.map g) (by
    rw [List.pairwise_map]
    refine List.Pairwise.imp_of_mem ?_ hp
    intro a b ha hb hab e
    obtain ⟨x, hx, _⟩ := hkey a ha
    obtain ⟨y, hy, _⟩ := hkey b hb
    apply hab
    simp only [g, hx, hy] at e
    rw [hx, hy, e]) (by
    intro x hx
    obtain ⟨p, hp', rfl⟩ := List.mem_map.1 hx
    obtain ⟨x, e, h0, h1⟩ := hkey p hp'
    simp only [g, e]
    omega)
  simpa [Maps.size] using h1

/-! ### the map's block -/
section
variable {P : Program} {k t e : TypeId} {w : World} {b : Nat} {F : Fs}

theorem owns_tight {n : Nat} {D : DataW Unit} (h : w.ownsMap P k fileR b n D) (hs : Maps.size D ≤ 16) : w.ownsMap P k fileR b 16 D := by
  obtain ⟨es, clock, hb, Ft, _, rfl⟩ := h
  exact ⟨es, clock, hb, Ft, by simpa [Maps.size, length_sorted] using hs, rfl⟩

theorem FilesAt.made (w : World) (P : Program) (k : TypeId) : FilesAt P k (w.alloc (.map #[] 0)) w.heap.size (fun _ => none) :=
  ⟨.map [], (World.ownsMap_made w P k fileR).mono (by omega), ⟨fun kl h => by simp [Maps.has] at h, fun x => rfl, fun x f h => by cases h⟩⟩

theorem FilesAt.lt (h : FilesAt P k w b F) : b < w.heap.size := by obtain ⟨D, h, _⟩ := h; exact h.lt

theorem FilesAt.keeps {S : Nat → Prop} {w' : World} (h : FilesAt P k w b F) (ho : Only S w w') (hs : ¬ S b) : FilesAt P k w' b F := by
  obtain ⟨D, ⟨es, clock, hb, r⟩, hr⟩ := h
  exact ⟨D, ⟨es, clock, ho.keeps hs hb, r⟩, hr⟩

theorem FilesAt.drew (h : FilesAt P k w b F) : FilesAt P k w.drew b F := h.keeps (S := NoBlock) (Only.refl _ w).drew (fun h => h)

theorem FilesAt.range (h : FilesAt P k w b F) {x : Int} {f : File} (hf : F x = some f) : 0 ≤ x ∧ x < 16 := by obtain ⟨D, _, hr⟩ := h; exact hr.range hf

theorem FilesAt.look (h : FilesAt P k w b F) (K : Keyed P k) (hk : P.underlying k = some (.int .i64)) (ht : P.underlying t = some (.map k e)) (hz : (zeroValue e).run P w = .ok (fileV noFile) w) {n : Int} (hn : (Lit.int .i64 n).wf = true) :
    (Instr.lookup t (.map (some b)) (.int .i64 n) true).run P w = .ok (.tuple #[fileV ((F n).getD noFile), .bool (F n).isSome]) w := by
  obtain ⟨D, hown, hr⟩ := h
  obtain ⟨v, ps, hrun, hv⟩ := hown.look_ok K ht hz (fileR_mk noFile) (keyOf_int_mk hk hn)
  rw [hrun, hr.has n]
  obtain ⟨f, rfl, hf⟩ := fileR_inv hv
  have hf1 : D.atKey (.int .i64 n) (fileD noFile) = fileD f := congrArg Prod.fst hf
  congr 4
  cases hx : F n with
  | none =>
    have : Maps.has D (.int .i64 n) = false := by rw [hr.has n, hx]; rfl
    rw [atKey_of_not_has this] at hf1
    rw [← fileD_inj hf1]; rfl
  | some g =>
    rw [hr.val n g hx] at hf1
    rw [← fileD_inj hf1]; rfl

theorem FilesAt.look1 (h : FilesAt P k w b F) (K : Keyed P k) (hk : P.underlying k = some (.int .i64)) (ht : P.underlying t = some (.map k e)) (hz : (zeroValue e).run P w = .ok (fileV noFile) w) {n : Int} (hn : (Lit.int .i64 n).wf = true) :
    (Instr.lookup t (.map (some b)) (.int .i64 n) false).run P w = .ok (fileV ((F n).getD noFile)) w := by
  obtain ⟨D, hown, hr⟩ := h
  obtain ⟨v, ps, hrun, hv⟩ := hown.lookup K ht hz (fileR_mk noFile) (keyOf_int_mk hk hn)
  rw [hrun]
  obtain ⟨f, rfl, hf⟩ := fileR_inv hv
  have hf1 : D.atKey (.int .i64 n) (fileD noFile) = fileD f := congrArg Prod.fst hf
  congr 2
  cases hx : F n with
  | none =>
    have : Maps.has D (.int .i64 n) = false := by rw [hr.has n, hx]; rfl
    rw [atKey_of_not_has this] at hf1
    rw [← fileD_inj hf1]; rfl
  | some g =>
    rw [hr.val n g hx] at hf1
    rw [← fileD_inj hf1]; rfl

theorem FilesAt.store (h : FilesAt P k w b F) (K : Keyed P k) (hk : P.underlying k = some (.int .i64)) (ht : P.underlying t = some (.map k e)) {n : Int} (h0 : 0 ≤ n) (h1 : n < 16) (f : File) :
    ∃ w', (Instr.mapUpdate t (.map (some b)) (.int .i64 n) (fileV f)).run P w = .ok () w' ∧ FilesAt P k w' b (F.put n f) ∧ w.grownBy w' (some b) := by
  obtain ⟨D, hown, hr⟩ := h
  obtain ⟨w', hrun, hown', ht'⟩ := hown.store K ht (by unfold maxLen; omega) (keyOf_int_mk hk (wf_small h0 h1)) (fileR_mk f)
  have hr' := hr.put hown.isMap h0 h1 f
  exact ⟨w', hrun, ⟨_, owns_tight hown' (size_small (hown'.entries K) hr'.keys), hr'⟩, ht'.grown⟩

theorem FilesAt.drop (h : FilesAt P k w b F) (K : Keyed P k) (hk : P.underlying k = some (.int .i64)) (ht : P.underlying t = some (.map k e)) {n : Int} (hn : (Lit.int .i64 n).wf = true) (ty : TypeId) :
    ∃ w', (Builtin.delete_ #[t, k] ty #[.map (some b), .int .i64 n]).run P w = .ok (.tuple #[]) w' ∧ FilesAt P k w' b (F.del n) ∧ w.grownBy w' (some b) := by
  obtain ⟨D, hown, hr⟩ := h
  obtain ⟨w', hrun, hown', ht'⟩ := hown.drop K ht (keyOf_int_mk hk hn) ty
  exact ⟨w', hrun, ⟨_, hown', hr.del n⟩, ht'.grown⟩

variable {ops : Array Oper} {rest : List Oper} {o : Oper} {a : Act} {Q : Exit → Act → World → Prop}

/-- 'v, ok := files[n]' -/
theorem wpList_look_file (hg : o.guard = none) (m x : Operand) (t : TypeId) (hop : o.op = Op.lookup t m x true) (K : Keyed P k) (hk : P.underlying k = some (.int .i64)) (ht : P.underlying t = some (.map k e)) (hz : ∀ w, (zeroValue e).run P w = .ok (fileV noFile) w)
    (h : FilesAt P k w b F) (hm : a.eval m = .map (some b)) (n : Int) (hx : a.eval x = .int .i64 n) (hn : (Lit.int .i64 n).wf = true) (fa fb : ByteArray) (hf : (F n).getD noFile = (fa, fb)) (there : Bool) (hth : (F n).isSome = there)
    (hK : wpList P ops Q rest (a.put o.dst (.tuple #[.agg #[.string fa, .string fb], .bool there])) w) :
    wpList P ops Q (o :: rest) a w := by
  refine wpList_plain hg fun K' hK' => ?_
  have hrun := h.look K hk ht (hz w) hn
  rw [hf, hth] at hrun
  unfold Oper.wp
  simp [execOp, hop, hm, hx, hrun, Result.andThen]
  exact hK' _ _ hK

/-- 'files[n]' -/
theorem wpList_look_file1 (hg : o.guard = none) (m x : Operand) (t : TypeId) (hop : o.op = Op.lookup t m x false) (K : Keyed P k) (hk : P.underlying k = some (.int .i64)) (ht : P.underlying t = some (.map k e)) (hz : ∀ w, (zeroValue e).run P w = .ok (fileV noFile) w)
    (h : FilesAt P k w b F) (hm : a.eval m = .map (some b)) (n : Int) (hx : a.eval x = .int .i64 n) (hn : (Lit.int .i64 n).wf = true) (fa fb : ByteArray) (hf : (F n).getD noFile = (fa, fb))
    (hK : wpList P ops Q rest (a.put o.dst (.agg #[.string fa, .string fb])) w) :
    wpList P ops Q (o :: rest) a w := by
  refine wpList_plain hg fun K' hK' => ?_
  have hrun := h.look1 K hk ht (hz w) hn
  rw [hf] at hrun
  unfold Oper.wp
  simp [execOp, hop, hm, hx, hrun, Result.andThen]
  exact hK' _ _ hK

/-- 'files[n] = file{fa, fb}' -/
theorem wpList_store_file (hg : o.guard = none) (m x v : Operand) (t : TypeId) (hop : o.op = Op.mapUpdate t m x v) (K : Keyed P k) (hk : P.underlying k = some (.int .i64)) (ht : P.underlying t = some (.map k e))
    (h : FilesAt P k w b F) (hm : a.eval m = .map (some b)) (n : Int) (hx : a.eval x = .int .i64 n) (h0 : 0 ≤ n) (h1 : n < 16) (fa fb : ByteArray) (hv : a.eval v = .agg #[.string fa, .string fb])
    (hK : ∀ w', FilesAt P k w' b (F.put n (fa, fb)) → w.grownBy w' (some b) → wpList P ops Q rest (a.put o.dst undef) w') :
    wpList P ops Q (o :: rest) a w := by
  refine wpList_plain hg fun K' hK' => ?_
  obtain ⟨w', hrun, r1, r2⟩ := h.store K hk ht h0 h1 (fa, fb)
  have hrun' : (Instr.mapUpdate t (.map (some b)) (.int .i64 n) (.agg #[.string fa, .string fb])).run P w = .ok () w' := hrun
  unfold Oper.wp
  simp [execOp, hop, hm, hx, hv, hrun', Result.andThen]
  exact hK' _ _ (hK w' r1 r2)

/-- 'delete(files, n)' -/
theorem wpList_delete_file (hg : o.guard = none) (m x : Operand) (t : TypeId) (hop : o.op = Op.call { callee := Callee.builtin Builtin.delete, args := #[m, x], argTypes := #[t, k] }) (K : Keyed P k) (hk : P.underlying k = some (.int .i64)) (ht : P.underlying t = some (.map k e))
    (h : FilesAt P k w b F) (hm : a.eval m = .map (some b)) (n : Int) (hx : a.eval x = .int .i64 n) (hn : (Lit.int .i64 n).wf = true)
    (hK : ∀ w', FilesAt P k w' b (F.del n) → w.grownBy w' (some b) → wpList P ops Q rest (a.put o.dst (.tuple #[])) w') :
    wpList P ops Q (o :: rest) a w := by
  refine wpList_plain hg fun K' hK' => ?_
  obtain ⟨w', hrun, r1, r2⟩ := h.drop K hk ht hn o.type
  unfold Oper.wp
  simp [execOp, hop, resolve, invoke, builtin, hm, hx, hrun, Result.andThen]
  exact hK' _ _ (hK w' r1 r2)
end

end Go.Proofs.Ytekmjhenhgmpgaa
