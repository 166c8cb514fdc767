/- saga.New, session.New, machine.New; the map of sagas. -/
import Derived.Test.YtogeeeigfhmpmaaSagaO
import Derived.Test.YtogeeeigfhmpmaaUMap
import Derived.Test.YtogeeeigfhmpmaaTab
namespace Go.Proofs.Ytogeeeigfhmpmaa
open Go.RowKit Go.Maps
set_option maxRecDepth 100000

set_option maxHeartbeats 1600000 in
theorem snew_at (w : World) (ao : Option Addr) (cap : Nat) (l : List Pk.Stp) (hrow : RowIn stpK 38 w ao l) (hok : Pk.okSs l = true) :
    Calls Try.prog 62 #[.slice ao l.length cap] w fun e w' => ∃ ao' cap', e = .returned (.tuple #[sgV (Mc.fresh l) ao' cap', .int .i64 0]) ∧ RowIn stpK 38 w' ao' l ∧ Only NoBlock w w' := by
  obtain ⟨fs, hfs⟩ := u_sg
  have HFS := Lib.hid hfs
  clear hfs
  have hsm := okSs_small hok
  have hn64 := hsm.1
  have HOK := Lib.hid hok
  clear hok
  go_enter Try.func62, Try.ntmps62
  go_upto_region 1 with fail
  have hG := Blk.made w #[.slice none 0 0, .int .i64 0, .int .i64 0, .int .i64 0] 63
  have hO := (Only.refl NoBlock w).alloc (Obj.cells #[.slice none 0 0, .int .i64 0, .int .i64 0, .int .i64 0] 63)
  have hr := hrow.keepsN hO
  generalize w.alloc (Obj.cells #[.slice none 0 0, .int .i64 0, .int .i64 0, .int .i64 0] 63) = w1 at hG hO hr ⊢
  have hG0 : w.heap.size ≤ w.heap.size := Nat.le_refl _
  generalize hGe : w.heap.size = G at hG ⊢
  have hG0 : w.heap.size ≤ G := by omega
  clear hGe hrow
  go_wp2_with fail
  refine (checkS_at w1 ao cap l hr hsm).mono ?_
  rintro e w2 ⟨rfl, hO2⟩
  rw [if_pos HOK.out]
  have hG2 := hG.keeps hO2 (fun h => h)
  have hr2 := hr.keepsN hO2
  have hO2' := hO.trans hO2
  clear hG hr hO hO2
  have hGl := hG2.lt
  go_wp2_with (first
    | (at_builtin; refine wpList_append_rows stpT _ rfl _ _ rfl w2.heap.size (.slice none 0 0) [] l ao l.length cap rfl (RowAt.nil _ _ _ _) rfl rfl hr2 (by simp; omega) (Nat.le_refl _) ?_; intro v3 w3 hrow3 hg3 hv3; have hG3 : Blk w3 G _ _ := (hg3.block _ hGl (by simp [Value.ownBlock])).trans hG2; have g0 := hG3.cell 0; have g1 := hG3.cell 1; have g2 := hG3.cell 2; have g3 := hG3.cell 3; have u0 := hG3.free 0; have u1 := hG3.free 1; have u2 := hG3.free 2; have u3 := hG3.free 3; simp only [List.getElem?_toArray, List.getElem?_cons_succ, List.getElem?_cons_zero] at g0 g1 g2 g3; rw [List.nil_append] at hrow3; obtain ⟨ao3, cap3, rfl, hin3⟩ := hrow3.read))
  have hO3 : Only NoBlock w w3 := (hO2'.grown hg3 (fun k hk _ => by simp [Value.ownBlock] at hk))
  have hV := sets_blk hG3 [.slice ao3 l.length cap3, .int .i64 1, .int .i64 0, .int .i64 0] rfl
  have hW := sets_only (g := G) hO3 (fun h => by omega) [.slice ao3 l.length cap3, .int .i64 1, .int .i64 0, .int .i64 0] 0
  have hW2 := sets_only (S := fun k => k = G) (g := G) (Only.refl _ w3) (fun _ => rfl) [.slice ao3 l.length cap3, .int .i64 1, .int .i64 0, .int .i64 0] 0
  simp only [sets] at hV hW hW2
  refine bodyPost_ret (results_cell_tmp (P := Try.prog) rfl _ _ G _ _ _ _ rfl hV HFS.out rfl size_sg) rfl ?_
  exact ⟨ao3, cap3, rfl, hin3.keepsT hW2 (fun k hk => by subst hk; exact fun ht => ht.ne_blk hG3 (by decide) rfl), hW⟩

theorem tnew_at (w : World) :
    Calls Try.prog 20 #[] w fun e w' => e = .returned (.pointer (some ⟨w.heap.size, 0, none⟩)) ∧ TabAt w' w.heap.size (.slice none 0 0) Mc.Tab.new ∧ Only NoBlock w w' ∧ w'.heap.size = w.heap.size + 1 := by
  go_enter Try.func20, Try.ntmps20
  go_wp2_with fail
  go_ret
  exact ⟨rfl, ⟨Blk.made w _ _, RowAt.nil _ _ _ _⟩, (Only.refl _ _).alloc _, by simp⟩

/-- a saga as it lies in the map -/
structure SgR where
  at_ : Option (Nat × Nat)
  n : Nat
  cap : Nat
  st : Int
  cu : Int
  fa : Int
def adr : Option (Nat × Nat) → Option Addr
  | none => none
  | some p => some ⟨p.1, p.2, none⟩
def SgR.val (r : SgR) : Value := .agg #[.slice (adr r.at_) r.n r.cap, .int .i64 r.st, .int .i64 r.cu, .int .i64 r.fa]
def SgR.dat (r : SgR) : DataW Unit := .agg [.lit (.bool r.at_.isSome), .lit (.int .i64 ((r.at_.getD (0, 0)).1 : Nat)), .lit (.int .i64 ((r.at_.getD (0, 0)).2 : Nat)), .lit (.int .i64 (r.n : Int)), .lit (.int .i64 (r.cap : Int)), .lit (.int .i64 r.st), .lit (.int .i64 r.cu), .lit (.int .i64 r.fa)]
def SgR.rd : Value → Option (DataW Unit × List MemPlace)
  | .agg cs => match cs.toList with
    | [.slice none n cap, .int .i64 a, .int .i64 b, .int .i64 c] => some (SgR.dat ⟨none, n, cap, a, b, c⟩, [])
    | [.slice (some ⟨x, y, none⟩) n cap, .int .i64 a, .int .i64 b, .int .i64 c] => some (SgR.dat ⟨some (x, y), n, cap, a, b, c⟩, [])
    | _ => none
  | _ => none
def sgM : MK SgR where
  val := SgR.val
  dat := SgR.dat
  rd := SgR.rd
  zero := ⟨none, 0, 0, 0, 0, 0⟩
  rdv := fun x => by obtain ⟨a, n, cap, st, cu, fa⟩ := x; cases a <;> rfl
  inv := fun v y h => by
    unfold SgR.rd at h
    split at h
    · rename_i cs
      split at h
      · rename_i n cap a b c hc
        refine ⟨⟨none, n, cap, a, b, c⟩, ?_, by cases h; rfl⟩
        unfold SgR.val adr
        congr 1
        cases cs; simpa using hc
      · rename_i x y' n cap a b c hc
        refine ⟨⟨some (x, y'), n, cap, a, b, c⟩, ?_, by cases h; rfl⟩
        unfold SgR.val adr
        congr 1
        cases cs; simpa using hc
      · cases h
    · cases h
  inj := fun x y h => by
    obtain ⟨a, n, cap, st, cu, fa⟩ := x
    obtain ⟨a', n', cap', st', cu', fa'⟩ := y
    unfold SgR.dat at h
    simp at h
    obtain ⟨h1, h2, h3, h4, h5, h6, h7, h8⟩ := h
    obtain rfl : n = n' := by omega
    obtain rfl : cap = cap' := by omega
    subst h6 h7 h8
    cases a with
    | none => cases a' with
      | none => rfl
      | some p => simp at h1
    | some p => cases a' with
      | none => simp at h1
      | some q =>
        simp at h2 h3
        obtain ⟨p1, p2⟩ := p
        obtain ⟨q1, q2⟩ := q
        simp at h2 h3
        obtain rfl : p1 = q1 := by omega
        obtain rfl : p2 = q2 := by omega
        rfl
/-- what lies in the map is this saga -/
def SgR.is (w : World) (r : SgR) (s : Mc.Sg) : Prop := SgR.val r = sgV s (adr r.at_) r.cap ∧ RowIn stpK 38 w (adr r.at_) s.steps
/-- block mb is the map of these sagas, n of them -/
def SgsAt (w : World) (mb : Nat) (f : Mc.Sgs) (n : Nat) : Prop := ∃ F : Nat → Option SgR, UMapAt sgM Try.prog 28 w mb F n ∧ ∀ i, (f i = none ∧ F i = none) ∨ ∃ s r, f i = some s ∧ F i = some r ∧ SgR.is w r s
namespace Mk
theorem u_u64k : Try.prog.underlying 28 = some (.int .u64) := by kernel_rfl
theorem law : Keyed Try.prog 28 := int_keyed u_u64k
theorem u_map : Try.prog.underlying 70 = some (.map 28 63) := by kernel_rfl
theorem zero (w : World) : (zeroValue 63).run Try.prog w = .ok (sgM.val sgM.zero) w := by kernel_rfl
end Mk
section
variable {w w' : World} {mb n : Nat} {f : Mc.Sgs}
theorem SgsAt.lt (h : SgsAt w mb f n) : mb < w.heap.size := by obtain ⟨F, h, _⟩ := h; exact h.lt
theorem SgsAt.keeps {S : Nat → Prop} (h : SgsAt w mb f n) (ho : Only S w w') (h1 : ¬ S mb) (h2 : ∀ k, S k → ¬ OfT w k 38) : SgsAt w' mb f n := by
  obtain ⟨F, hm, hF⟩ := h
  refine ⟨F, hm.keeps ho h1, fun i => ?_⟩
  rcases hF i with h0 | ⟨s, r, e1, e2, e3, e4⟩
  · exact .inl h0
  · exact .inr ⟨s, r, e1, e2, e3, e4.keepsT ho h2⟩
theorem SgsAt.keepsN (h : SgsAt w mb f n) (ho : Only NoBlock w w') : SgsAt w' mb f n := h.keeps ho (fun h => h) (fun _ h => h.elim)
theorem SgsAt.ofT_ne (h : SgsAt w mb f n) {p : Nat} {E : TypeId} (hp : OfT w p E) : p ≠ mb := by
  obtain ⟨F, hm, _⟩ := h
  obtain ⟨cs, r, hb⟩ := hp
  exact fun e => hm.ne_cells hb e.symm
theorem SgsAt.not_ofT (h : SgsAt w mb f n) (E : TypeId) : ¬ OfT w mb E := fun hp => h.ofT_ne hp rfl
theorem SgsAt.lookNo {i : Nat} (h : SgsAt w mb f n) (hf : f i = none) (hi : i < 18446744073709551616) : (Instr.lookup 70 (.map (some mb)) (.int .u64 i) true).run Try.prog w = .ok (.tuple #[.agg #[.slice none 0 0, .int .i64 0, .int .i64 0, .int .i64 0], .bool false]) w := by
  obtain ⟨F, hm, hF⟩ := h
  have hl := hm.look Mk.law Mk.u_u64k Mk.u_map (Mk.zero w) hi
  rcases hF i with ⟨_, h0⟩ | ⟨s, r, e1, _⟩
  · rw [h0] at hl; exact hl
  · rw [hf] at e1; cases e1
theorem SgsAt.lookYes {i : Nat} {s : Mc.Sg} (h : SgsAt w mb f n) (hf : f i = some s) (hi : i < 18446744073709551616) : ∃ ao cap, (Instr.lookup 70 (.map (some mb)) (.int .u64 i) true).run Try.prog w = .ok (.tuple #[.agg #[.slice ao s.steps.length cap, .int .i64 s.state, .int .i64 s.cursor, .int .i64 s.failed], .bool true]) w ∧
    (Instr.lookup 70 (.map (some mb)) (.int .u64 i) false).run Try.prog w = .ok (.agg #[.slice ao s.steps.length cap, .int .i64 s.state, .int .i64 s.cursor, .int .i64 s.failed]) w ∧ RowIn stpK 38 w ao s.steps := by
  obtain ⟨F, hm, hF⟩ := h
  have hl := hm.look Mk.law Mk.u_u64k Mk.u_map (Mk.zero w) hi
  have hl1 := hm.look1 Mk.law Mk.u_u64k Mk.u_map (Mk.zero w) hi
  rcases hF i with ⟨h0, _⟩ | ⟨s', r, e1, e2, e3, e4⟩
  · rw [hf] at h0; cases h0
  · rw [hf] at e1
    cases e1
    rw [e2] at hl hl1
    have e3' : sgM.val r = sgV s (adr r.at_) r.cap := e3
    simp only [Option.getD_some, e3'] at hl hl1
    exact ⟨adr r.at_, r.cap, hl, hl1, e4⟩
/-- .. and so behind what changes no block -/
theorem SgsAt.lookAll {i : Nat} {s : Mc.Sg} (h : SgsAt w mb f n) (hf : f i = some s) (hi : i < 18446744073709551616) : ∃ ao cap, RowIn stpK 38 w ao s.steps ∧ ∀ w', Only NoBlock w w' → (Instr.lookup 70 (.map (some mb)) (.int .u64 i) true).run Try.prog w' = .ok (.tuple #[.agg #[.slice ao s.steps.length cap, .int .i64 s.state, .int .i64 s.cursor, .int .i64 s.failed], .bool true]) w' ∧
    (Instr.lookup 70 (.map (some mb)) (.int .u64 i) false).run Try.prog w' = .ok (.agg #[.slice ao s.steps.length cap, .int .i64 s.state, .int .i64 s.cursor, .int .i64 s.failed]) w' := by
  obtain ⟨F, hm, hF⟩ := h
  rcases hF i with ⟨h0, _⟩ | ⟨s', r, e1, e2, e3, e4⟩
  · rw [hf] at h0; cases h0
  · rw [hf] at e1
    cases e1
    refine ⟨adr r.at_, r.cap, e4, fun w' ho => ?_⟩
    have hm' := hm.keeps ho (fun h => h)
    have hl := hm'.look Mk.law Mk.u_u64k Mk.u_map (Mk.zero w') hi
    have hl1 := hm'.look1 Mk.law Mk.u_u64k Mk.u_map (Mk.zero w') hi
    rw [e2] at hl hl1
    have e3' : sgM.val r = sgV s (adr r.at_) r.cap := e3
    simp only [Option.getD_some, e3'] at hl hl1
    exact ⟨hl, hl1⟩
/-- a saga is stored -/
theorem SgsAt.store {i : Nat} {s : Mc.Sg} {ao : Option Addr} {cap : Nat} (h : SgsAt w mb f n) (hn : n ≤ 1000) (hi : i < 18446744073709551616) (hrow : RowIn stpK 38 w ao s.steps) (hp : 0 < s.steps.length) :
    ∃ w', (Instr.mapUpdate 70 (.map (some mb)) (.int .u64 i) (.agg #[.slice ao s.steps.length cap, .int .i64 s.state, .int .i64 s.cursor, .int .i64 s.failed])).run Try.prog w = .ok () w' ∧ SgsAt w' mb (Mc.put f i s) (if (f i).isSome = true then n else n + 1) ∧ w.grownBy w' (some mb) := by
  obtain ⟨b, off, rfl⟩ := hrow.shape hp
  have hno := h.not_ofT 38
  obtain ⟨F, hm, hF⟩ := h
  obtain ⟨w', hrun, h1, h2⟩ := hm.store Mk.law Mk.u_u64k Mk.u_map (by omega) hi ⟨some (b, off), s.steps.length, cap, s.state, s.cursor, s.failed⟩
  have hO := Only.of_grown h2
  have hiso : (F i).isSome = (f i).isSome := by
    rcases hF i with ⟨a, b⟩ | ⟨s', r, e1, e2, _⟩
    · rw [a, b]; rfl
    · rw [e1, e2]; rfl
  refine ⟨w', hrun, ⟨_, by rw [← hiso]; exact h1, fun j => ?_⟩, h2⟩
  unfold uput Mc.put
  by_cases e : j = i
  · subst e
    rw [if_pos rfl, if_pos rfl]
    exact .inr ⟨s, _, rfl, rfl, rfl, hrow.keepsT hO (fun k hk => by cases hk; exact hno)⟩
  · rw [if_neg e, if_neg e]
    rcases hF j with h0 | ⟨s', r, e1, e2, e3, e4⟩
    · exact .inl h0
    · exact .inr ⟨s', r, e1, e2, e3, e4.keepsT hO (fun k hk => by cases hk; exact hno)⟩
theorem SgsAt.made (w : World) : SgsAt (w.alloc (.map #[] 0)) w.heap.size (fun _ => none) 0 := ⟨_, UMapAt.made sgM Try.prog 28 w, fun _ => .inl ⟨rfl, rfl⟩⟩
theorem SgsAt.len (h : SgsAt w mb f n) (ty : TypeId) : (Builtin.len_ #[70] ty #[.map (Option.some mb)]).run Try.prog w = .ok (.int .i64 n) w := by
  obtain ⟨F, hm, _⟩ := h
  exact hm.len Mk.u_map ty
variable {ops : Array Oper} {rest : List Oper} {o : Oper} {a : Act} {Q : Exit → Act → World → Prop}
/-- 'm.sagas[x] = s' -/
theorem wpList_sgstore (hg : o.guard = none) (m y v : Operand) (hop : o.op = Op.mapUpdate 70 m y v) (h : SgsAt w mb f n) (hn : n ≤ 1000) (hm : a.eval m = .map (some mb)) (x : Nat) (hx : a.eval y = .int .u64 x) (hlt : x < 18446744073709551616) (s : Mc.Sg) (ao : Option Addr) (cap : Nat)
    (hv : a.eval v = .agg #[.slice ao s.steps.length cap, .int .i64 s.state, .int .i64 s.cursor, .int .i64 s.failed]) (hrow : RowIn stpK 38 w ao s.steps) (hp : 0 < s.steps.length)
    (hK : ∀ w', SgsAt w' mb (Mc.put f x s) (if (f x).isSome = true then n else n + 1) → w.grownBy w' (some mb) → wpList Try.prog ops Q rest (a.put o.dst undef) w') : wpList Try.prog ops Q (o :: rest) a w := by
  refine wpList_plain hg fun K' hK' => ?_
  obtain ⟨w', hrun, r1, r2⟩ := h.store (cap := cap) hn hlt hrow hp
  unfold Oper.wp
  simp [execOp, hop, hm, hx, hv, hrun, Result.andThen]
  exact hK' _ _ (hK w' r1 r2)
/-- 'len(m.sagas)' -/
theorem wpList_sglen (hg : o.guard = none) (m : Operand) (hop : o.op = Op.call { callee := Callee.builtin Builtin.len, args := #[m], argTypes := #[70] }) (h : SgsAt w mb f n) (hm : a.eval m = .map (some mb))
    (hK : wpList Try.prog ops Q rest (a.put o.dst (.int .i64 n)) w) : wpList Try.prog ops Q (o :: rest) a w := by
  refine wpList_plain hg fun K' hK' => ?_
  unfold Oper.wp
  simp [execOp, hop, resolve, invoke, builtin, hm, h.len o.type, Result.andThen]
  exact hK' _ _ hK
end
end Go.Proofs.Ytogeeeigfhmpmaa
