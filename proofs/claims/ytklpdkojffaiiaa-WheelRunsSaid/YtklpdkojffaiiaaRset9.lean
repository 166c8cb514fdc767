/- The document's wheel: Set. -/
import Derived.Test.YtklpdkojffaiiaaRstop9
import Derived.Test.YtklpdkojffaiiaaWheelK
namespace Go.Proofs.Ytklpdkojffaiiaa
open Go.RowKit Go.Shelf
set_option maxRecDepth 100000

namespace Rw
open Wh
/-- the wheel with its two rows as they are -/
def Raw (w : World) (R : Nat → Prop) (r now : Nat) (li ld : List Int) : Prop :=
  ∃ vi vd, Blk w r #[.int .u64 now, vi, vd] 42 ∧ Row 3 .i64 w 0 vi li ∧ Row 33 .u64 w 0 vd ld ∧ R r ∧ (∀ b, vi.ownBlock = some b → R b) ∧ (∀ b, vd.ownBlock = some b → R b)
theorem one_cell (w : World) (x : Int) (t : TypeId) (n : Nat) (hn : n = w.heap.size) (j : Nat) (hj : j < [x].length) : ((w.alloc (.cells #[.int .u64 x] t)).drew).cell? ((⟨n, 0, none⟩ : Addr).add j) = some (.int .u64 ([x].getD j 0)) := by
  obtain rfl : j = 0 := by simpa using hj
  rw [Addr.add_lit]
  exact cell_u64 w x t n hn
theorem one_celli (w : World) (x : Int) (t : TypeId) (n : Nat) (hn : n = w.heap.size) (j : Nat) (hj : j < [x].length) : (w.alloc (.cells #[.int .i64 x] t)).cell? ((⟨n, 0, none⟩ : Addr).add j) = some (.int .i64 ([x].getD j 0)) := by
  obtain rfl : j = 0 := by simpa using hj
  rw [Addr.add_lit]
  exact cell_int w x t n hn
theorem now_far {w : World} {r now : Nat} (h : w.cell? ⟨r, 0, none⟩ = some (.int .u64 now)) (v : Value) : (w.setCell ⟨r, 2, none⟩ v).cell? ⟨r, 0, none⟩ = some (.int .u64 now) := (World.cell?_setCell_other _ _ _ _ (by simp)).trans h
theorem wpList_append_row {ops : Array Oper} {rest : List Oper} {o : Oper} {a : Act} {Q : Exit → Act → World → Prop} (w : World) (T e : TypeId) (k : IntKind) (hT : Try.prog.underlying T = some (.slice e)) (hinf : (Try.prog.info? e).map (fun i => (i.zero, i.size, i.bytes)) = some (some (.int k 0), 1, 8))
    (hgd : o.guard = none) (s x : Operand) (ho : o.op = .call { callee := .builtin .append, args := #[s, x], argTypes := #[T, T] })
    (base : Nat) (v : Value) (l m : List Int) (ad : Addr) (n c : Nat) (hs : a.eval s = v) (hown : Row e k w base v l) (hn : n = m.length) (hx : a.eval x = .slice (some ad) n c)
    (hc : ∀ j, j < m.length → w.cell? (ad.add j) = some (.int k (m.getD j 0))) (hlen : l.length + m.length ≤ 1000000) (hbase : base ≤ w.heap.size)
    (h : ∀ v' w', Row e k w' base v' (l ++ m) → w.grownBy w' v.ownBlock → (v'.ownBlock = v.ownBlock ∨ v'.ownBlock = some w.heap.size) → wpList Try.prog ops Q rest (a.put o.dst v') w') : wpList Try.prog ops Q (o :: rest) a w := by
  refine wpList_plain hgd fun K hK' => ?_
  have hw : Region.wanted o (yielded ops a.tmps) = true := by simp [Region.wanted, hgd]
  have := step_append_row (ops := ops) (o := o) (a := a) (Q := Q) (K := K) (E := True) w T e k hT hinf hgd s x ho base v l m ad n c hs hown hn hx hc hlen hbase (fun v' w' h1 h2 h3 => hK' _ _ (h v' w' h1 h2 h3))
  rwa [if_pos hw] at this
section
variable {w w3 : World} {R : Nat → Prop} {r now : Nat} {li ld l' : List Int} {vi vd v' : Value}
theorem push1 (hb : Blk w r #[.int .u64 now, vi, vd] 42) (hri : Row 3 .i64 w 0 vi li) (hrd : Row 33 .u64 w 0 vd ld) (hRr : R r) (hRi : ∀ b, vi.ownBlock = some b → R b) (hRd : ∀ b, vd.ownBlock = some b → R b)
    (hr3 : Row 3 .i64 w3 0 v' l') (hg : w.grownBy w3 vi.ownBlock) (hor : v'.ownBlock = vi.ownBlock ∨ ∃ g, v'.ownBlock = some g ∧ w.heap.size ≤ g) :
    w3.cell? ⟨r, 1, none⟩ = some vi ∧ w3.frozen? ⟨r, 1, none⟩ = false ∧ Raw (w3.setCell ⟨r, 1, none⟩ v') (plus R w (w3.setCell ⟨r, 1, none⟩ v')) r now l' ld ∧ Only R w (w3.setCell ⟨r, 1, none⟩ v') := by
  have hO3 := Only.of_grown hg
  have hap := hri.apart hb (by decide)
  have hb3 := hb.keeps hO3 (fun e => hap e)
  have hO4 : Only (fun k => k = r) w3 (w3.setCell ⟨r, 1, none⟩ v') := Only.setCell (S := fun k => k = r) (p := ⟨r, 1, none⟩) (Only.refl _ _) (fun _ => rfl) _
  have hrd3 := hrd.keeps hO3 (fun b e h => hri.two hrd (by decide) b h e)
  refine ⟨by rw [hb3.cell]; rfl, hb3.free 1, ⟨v', vd, hb3.setCell 1 v', hr3.keeps hO4 (fun b e hk => by subst hk; exact hr3.apart hb3 (by decide) e), hrd3.keeps hO4 (fun b e hk => by subst hk; exact hrd3.apart hb3 (by decide) e), .inl hRr, fun b e => ?_, fun b e => .inl (hRd b e)⟩, (hO3.mono (fun k e => hRi k e)).trans (hO4.mono (fun k e => by subst e; exact hRr))⟩
  rcases hor with h | ⟨g, h, hge⟩
  · exact .inl (hRi b (by rw [← h]; exact e))
  · rw [h] at e
    cases e
    exact .inr ⟨hge, by rw [World.size_setCell]; exact (hr3.lt _ h).2⟩
theorem push2 (h4 : Raw w R r now li ld) (hr3 : Row 33 .u64 w3 0 v' l') {vd : Value} (hg : w.grownBy w3 vd.ownBlock) (hvd : w.cell? ⟨r, 2, none⟩ = some vd) (hor : v'.ownBlock = vd.ownBlock ∨ ∃ g, v'.ownBlock = some g ∧ w.heap.size ≤ g) :
    w3.cell? ⟨r, 0, none⟩ = some (.int .u64 now) ∧ w3.cell? ⟨r, 2, none⟩ = some vd ∧ w3.frozen? ⟨r, 2, none⟩ = false ∧ Raw (w3.setCell ⟨r, 2, none⟩ v') (plus R w (w3.setCell ⟨r, 2, none⟩ v')) r now li l' ∧ Only R w (w3.setCell ⟨r, 2, none⟩ v') := by
  obtain ⟨vi, vd2, hb, hri, hrd, hRr, hRi, hRd⟩ := h4
  obtain rfl : vd2 = vd := by rw [hb.cell] at hvd; simpa using hvd
  have hO3 := Only.of_grown hg
  have hap := hrd.apart hb (by decide)
  have hb3 := hb.keeps hO3 (fun e => hap e)
  have hO4 : Only (fun k => k = r) w3 (w3.setCell ⟨r, 2, none⟩ v') := Only.setCell (S := fun k => k = r) (p := ⟨r, 2, none⟩) (Only.refl _ _) (fun _ => rfl) _
  have hri3 := hri.keeps hO3 (fun b e h => hri.two hrd (by decide) b e h)
  refine ⟨by rw [hb3.cell]; rfl, by rw [hb3.cell]; rfl, hb3.free 2, ⟨vi, v', hb3.setCell 2 v', hri3.keeps hO4 (fun b e hk => by subst hk; exact hri3.apart hb3 (by decide) e), hr3.keeps hO4 (fun b e hk => by subst hk; exact hr3.apart hb3 (by decide) e), .inl hRr, fun b e => .inl (hRi b e), fun b e => ?_⟩, (hO3.mono (fun k e => hRd k e)).trans (hO4.mono (fun k e => by subst e; exact hRr))⟩
  rcases hor with h | ⟨g, h, hge⟩
  · exact .inl (hRd b (by rw [← h]; exact e))
  · rw [h] at e
    cases e
    exact .inr ⟨hge, by rw [World.size_setCell]; exact (hr3.lt _ h).2⟩
end
theorem plus_down {R : Nat → Prop} {a b c : World} (h1 : a.heap.size ≤ b.heap.size) (h2 : b.heap.size ≤ c.heap.size) (k : Nat) (h : plus (plus R a b) b c k) : plus R a c k := by
  rcases h with (h | h) | h
  · exact .inl h
  · exact .inr ⟨h.1, by omega⟩
  · exact .inr ⟨by omega, h.2⟩
theorem fino {R : Nat → Prop} {w w1 w4 w7 : World} (o1 : Only R w w1) (o4 : Only (plus R w w1) w1 w4) (o7 : Only (plus (plus R w w1) w1 w4) w4 w7) : Only R w w7 := by
  have hz := o1.size
  refine (o1.andThen o4 (fun i hi e => ?_)).andThen o7 (fun i hi e => ?_)
  · exact e.resolve_right (by omega)
  · exact (plus_down o1.size o4.size i e).resolve_right (by omega)
theorem fin {R : Nat → Prop} {w w1 w4 w7 : World} {r now : Nat} {A : List Tm} {li ld : List Int} (h1 : A.map (·.id) = li) (h2 : A.map (fun t => (t.due : Int)) = ld) (o1 : Only R w w1) (o4 : Only (plus R w w1) w1 w4) (o7 : Only (plus (plus R w w1) w1 w4) w4 w7) (h : Raw w7 (plus (plus (plus R w w1) w1 w4) w4 w7) r now li ld) : RefW w7 (plus R w w7) r now A := by
  subst h1 h2
  refine RefW.more (R := plus (plus (plus R w w1) w1 w4) w4 w7) h (fun b e => ?_)
  refine plus_down (Nat.le_trans o1.size o4.size) o7.size b (e.imp (fun e => plus_down o1.size o4.size b e) (fun e => e))
end Rw
set_option maxHeartbeats 8000000 in
theorem rset_at (w : World) (R : Nat → Prop) (r now : Nat) (A : List Wh.Tm) (h : Rw.RefW w R r now A) (hids : (A.map (·.id)).Nodup) (hlen : A.length ≤ 64) (turn id d : Int) (hnow : now < 4611686018427387904) :
    Calls Try.prog 16 #[.pointer (some ⟨r, 0, none⟩), .int .i64 id, .int .i64 d] w fun e w' => e = .returned (.int .i64 (Wh.setA A now turn id d).2.1) ∧ Rw.RefW w' (Rw.plus R w w') r now (Wh.setA A now turn id d).1 ∧ Only R w w' := by
  go_enter Try.func16, Try.ntmps16
  by_cases hd0 : d < 1
  · have HD := Lib.hid hd0
    have hdd : decide (d < 1) = true := by simpa using hd0
    clear hd0
    go_wp2_with fail
    go_ret
    rw [Wh.setA_bad (by have := HD.out; omega)]
    exact ⟨rfl, h.more (fun b e => .inl e), Only.refl _ _⟩
  by_cases hd1 : 1048576 < d
  · have HD := Lib.hid hd1
    have hdd : decide (d < 1) = false := by simpa using hd0
    have hde : decide (1048576 < d) = true := by simpa using hd1
    clear hd0 hd1
    go_wp2_with fail
    go_ret
    rw [Wh.setA_bad (by have := HD.out; omega)]
    exact ⟨rfl, h.more (fun b e => .inl e), Only.refl _ _⟩
  have HD : RowKit.Hid (1 ≤ d ∧ d ≤ 1048576) := Lib.hid (by omega)
  have hdd : decide (d < 1) = false := by simpa using hd0
  have hde : decide (1048576 < d) = false := by simpa using hd1
  clear hd0 hd1
  have hst := rstop_at w R r now A h hids (by omega) id
  obtain ⟨bH, hbH⟩ : ∃ b, Wh.hasA A id = b := ⟨_, rfl⟩
  have HB := Lib.hid hbH
  rw [hbH] at hst
  obtain ⟨A1, hA1⟩ : ∃ A1, Wh.dropA A id = A1 := ⟨_, rfl⟩
  rw [hA1] at hst
  obtain ⟨E, hE⟩ : ∃ E, now + d.toNat = E := ⟨_, rfl⟩
  have HE := Lib.hid hE
  cases bH with
  | true =>
    have hal : A1.length ≤ 64 := by have := Wh.dropA_len hids hbH; rw [hA1] at this; omega
    have HSET : RowKit.Hid (Wh.setA A now turn id d = (A1 ++ [⟨id, E, turn + 1⟩], 0, turn + 1)) := Lib.hid (by rw [Wh.setA_had HD.out hbH, hA1, hE])
    clear hbH hA1 hE
    go_upto_region 3 with fail
    go_wp2_with fail
    refine hst.mono ?_
    rintro e w1 ⟨rfl, h1, o1⟩
    clear hst
    have hz1 : (A1.map (·.id)).length ≤ 1000 := by rw [List.length_map]; omega
    have hz2 : (A1.map (fun t => (t.due : Int))).length ≤ 1000 := by rw [List.length_map]; omega
    have HL1 : RowKit.Hid ((A1 ++ [(⟨id, E, turn + 1⟩ : Wh.Tm)]).map (·.id) = A1.map (·.id) ++ [id]) := Lib.hid (by rw [List.map_append]; rfl)
    have HL2 : RowKit.Hid ((A1 ++ [(⟨id, E, turn + 1⟩ : Wh.Tm)]).map (fun t : Wh.Tm => (t.due : Int)) = A1.map (fun t => (t.due : Int)) ++ [(E : Int)]) := Lib.hid (by rw [List.map_append]; rfl)
    replace h1 : Rw.Raw w1 (Rw.plus R w w1) r now (A1.map (·.id)) (A1.map (fun t => (t.due : Int))) := h1
    obtain ⟨li, hli⟩ : ∃ li, A1.map (·.id) = li := ⟨_, rfl⟩
    obtain ⟨ld, hld⟩ : ∃ ld, A1.map (fun t => (t.due : Int)) = ld := ⟨_, rfl⟩
    rw [hli] at h1 hz1 HL1
    rw [hld] at h1 hz2 HL2
    clear hli hld
    obtain ⟨vi, vd, hb, hri, hrd, hRr, hRi, hRd⟩ := _root_.id h1
    obtain ⟨ai, ci, rfl, _⟩ := hri.shape
    have c1 : w1.cell? ⟨r, 1, none⟩ = some (.slice ai li.length ci) := by rw [hb.cell]; rfl
    go_upto_region 6 with (first
      | (at_builtin; refine Rw.wpList_append_row _ 27 3 .i64 Rw.u_i Rw.i_i rfl _ _ rfl 0 (.slice ai li.length ci) li [id] ⟨w1.heap.size, 0, none⟩ 1 1 rfl (hri.keeps ((Only.refl NoBlock _).alloc _) (fun _ _ h => h)) rfl rfl (fun j hj => Rw.one_celli _ _ _ _ rfl j hj) (by simp; omega) (Nat.zero_le _) ?_; intro v3 w3 hr3 hg3 hor3; have hM3 := Rw.push1 hb hri hrd hRr hRi hRd hr3 (Wh.grown_pre ((Only.refl NoBlock w1).alloc _) hg3) (hor3.imp (fun h => h) (fun h => ⟨_, h, by simp⟩)); obtain ⟨c3, f3, hM3⟩ := hM3; obtain ⟨a3, cp3, rfl, _⟩ := hr3.shape))
    obtain ⟨h4, o4⟩ := hM3
    rw [show (li ++ [id]).length = li.length + 1 by simp] at h4 o4
    generalize World.setCell w3 ⟨r, 1, none⟩ (.slice a3 (li.length + 1) cp3) = w4 at h4 o4 ⊢
    clear hr3 hg3 hor3 c3 f3 hb hri hrd hRr hRi hRd c1 h1
    obtain ⟨vi4, vd4, hb4, hri4, hrd4, _, _, _⟩ := _root_.id h4
    obtain ⟨ad4, cd4, rfl, _⟩ := hrd4.shape
    have n0 : w4.drew.cell? ⟨r, 0, none⟩ = some (.int .u64 now) := by rw [hb4.drew.cell]; rfl
    have c4 : w4.drew.cell? ⟨r, 2, none⟩ = some (.slice ad4 ld.length cd4) := by rw [hb4.drew.cell]; rfl
    have hcv : IntKind.u64.wrap d = d := by rw [IntKind.wrap_u64]; have := HD.out; omega
    have hsum : IntKind.u64.wrap ((now : Int) + d) = (E : Int) := by rw [IntKind.wrap_u64]; have := HD.out; have := HE.out; omega
    refine wp_region_held_drew (S := fun w' => w'.cell? ⟨r, 0, none⟩ = some (.int .u64 now)) (by kernel_rfl) n0 (fun hHeld => ?_)
    refine Wh.take (i := 0) (d := some 35) (v := ?v1) rfl (by rfl) (by kernel_rfl) (by kernel_rfl) (by kernel_rfl) (fun _ _ _ h => h) (Or.inl ⟨by rfl, ?h1⟩) n0 ?r1
    case h1 => (intro w hSw; (try dsimp only at hSw); go_simp; all_goals (try with_reducible rfl))
    simp only [Act.put, List.setIfInBounds_toArray, List.set_cons_zero, List.set_cons_succ]
    refine Wh.take (i := 1) (d := some 36) (v := ?v2) rfl (by rfl) (by kernel_rfl) (by kernel_rfl) (by kernel_rfl) (fun _ _ _ h => h) (Or.inl ⟨by rfl, ?h2⟩) n0 ?r2
    case h2 => (intro w hSw; (try dsimp only at hSw); go_simp; all_goals (try with_reducible rfl))
    simp only [Act.put, List.setIfInBounds_toArray, List.set_cons_zero, List.set_cons_succ]
    refine Wh.take (i := 2) (d := some 37) (v := ?v3) rfl (by rfl) (by kernel_rfl) (by kernel_rfl) (by kernel_rfl) (fun _ _ _ h => h) (Or.inl ⟨by rfl, ?h3⟩) n0 ?r3
    case h3 => (intro w hSw; (try dsimp only at hSw); go_simp; all_goals (try with_reducible rfl))
    simp only [Act.put, List.setIfInBounds_toArray, List.set_cons_zero, List.set_cons_succ]
    refine Wh.take (i := 3) (d := some 38) (v := ?v4) rfl (by rfl) (by kernel_rfl) (by kernel_rfl) (by kernel_rfl) (fun _ _ _ h => h) (Or.inl ⟨by rfl, ?h4⟩) n0 ?r4
    case h4 => (intro w hSw; (try dsimp only at hSw); go_simp; all_goals (try with_reducible rfl))
    simp only [Act.put, List.setIfInBounds_toArray, List.set_cons_zero, List.set_cons_succ]
    refine Wh.take (i := 5) (d := some 40) (v := ?v5) rfl (by rfl) (by kernel_rfl) (by kernel_rfl) (by kernel_rfl) (fun _ _ _ h => h) (Or.inl ⟨by rfl, ?h5⟩) n0 ?r5
    case h5 => (intro w hSw; (try dsimp only at hSw); go_simp; all_goals (try with_reducible rfl))
    simp only [Act.put, List.setIfInBounds_toArray, List.set_cons_zero, List.set_cons_succ]
    refine Wh.take (i := 6) (d := some 41) (v := ?v6) rfl (by rfl) (by kernel_rfl) (by kernel_rfl) (by kernel_rfl) (fun _ _ _ h => h) (Or.inl ⟨by rfl, ?h6⟩) n0 ?r6
    case h6 => (intro w hSw; (try dsimp only at hSw); go_simp; all_goals (try with_reducible rfl))
    simp only [Act.put, List.setIfInBounds_toArray, List.set_cons_zero, List.set_cons_succ]
    refine Wh.take (i := 7) (d := some 42) (v := ?v7) rfl (by rfl) (by kernel_rfl) (by kernel_rfl) (by kernel_rfl) (fun _ _ _ h => h) (Or.inl ⟨by rfl, ?h7⟩) n0 ?r7
    case h7 => (intro w hSw; (try dsimp only at hSw); go_simp; all_goals (try with_reducible rfl))
    simp only [Act.put, List.setIfInBounds_toArray, List.set_cons_zero, List.set_cons_succ]
    refine Wh.take (i := 8) (d := some 43) (v := ?v8) rfl (by rfl) (by kernel_rfl) (by kernel_rfl) (by kernel_rfl) (fun _ _ _ h => h) (Or.inl ⟨by rfl, ?h8⟩) n0 ?r8
    case h8 => (intro w hSw; (try dsimp only at hSw); go_simp; all_goals (try with_reducible rfl))
    simp only [Act.put, List.setIfInBounds_toArray, List.set_cons_zero, List.set_cons_succ]
    refine Wh.take (i := 9) (d := some 44) (v := ?v9) rfl (by rfl) (by kernel_rfl) (by kernel_rfl) (by kernel_rfl) (fun _ _ _ h => h) (Or.inl ⟨by rfl, ?h9⟩) n0 ?r9
    case h9 => (intro w hSw; (try dsimp only at hSw); go_simp; all_goals (try with_reducible rfl))
    simp only [Act.put, List.setIfInBounds_toArray, List.set_cons_zero, List.set_cons_succ]
    refine Wh.take (i := 10) (d := some 45) (v := ?v10) rfl (by rfl) (by kernel_rfl) (by kernel_rfl) (by kernel_rfl) (fun _ _ _ h => h) (Or.inl ⟨by rfl, ?h10⟩) n0 ?r10
    case h10 => (intro w hSw; (try dsimp only at hSw); go_simp; all_goals (try with_reducible rfl))
    simp only [Act.put, List.setIfInBounds_toArray, List.set_cons_zero, List.set_cons_succ]
    refine Wh.take (i := 11) (d := some 46) (v := ?v11) rfl (by rfl) (by kernel_rfl) (by kernel_rfl) (by kernel_rfl) (fun _ _ _ h => h) (Or.inl ⟨by rfl, ?h11⟩) n0 ?r11
    case h11 => (intro w hSw; (try dsimp only at hSw); go_simp; all_goals (try with_reducible rfl))
    simp only [Act.put, List.setIfInBounds_toArray, List.set_cons_zero, List.set_cons_succ]
    refine wpAnyH_ready (rs := [4, 12]) (by kernel_rfl) (by simp) ?_
    refine AllReadyH.cons rfl (fun K hK => ?_) (AllReadyH.cons rfl (fun K hK => ?_) AllReadyH.nil)
    · go_simp
      refine hK.out _ _ n0 (fun hHeld => ?_)
      clear hK K
      try simp only [Act.put, List.setIfInBounds_toArray, List.set_cons_zero, List.set_cons_succ]
      refine wpAnyH_ready (rs := [12]) (by kernel_rfl) (by simp) ?_
      refine AllReadyH.cons rfl (fun K hK => ?_) AllReadyH.nil
      go_simp
      refine hK.out _ _ (Wh.cell_same (((Only.refl NoBlock _).alloc _)) n0) (fun hHeld => ?_)
      clear hK K
      try simp only [Act.put, List.setIfInBounds_toArray, List.set_cons_zero, List.set_cons_succ]
      refine wpAnyH_ready (rs := [13]) (by kernel_rfl) (by simp) ?_
      refine AllReadyH.cons rfl (fun K hK => ?_) AllReadyH.nil
      refine Rw.step_append_row _ 40 33 .u64 Rw.u_u Rw.i_u (by rfl) _ _ (by rfl) 0 (.slice ad4 ld.length cd4) ld [(E : Int)] ⟨w4.heap.size, 0, none⟩ 1 1 (by rfl) (hrd4.keeps (((Only.refl NoBlock _).alloc _).drew) (fun _ _ h => h)) (by rfl) (by rfl) (fun j hj => Rw.one_cell _ _ _ _ (by rfl) j hj) (by simp; omega) (Nat.zero_le _) ?_
      intro v6 w6 hr6 hg6 hor6
      have hG := Wh.grown_pre (((Only.refl NoBlock w4).alloc _).drew) hg6
      have hM := Rw.push2 h4 hr6 hG c4 (hor6.imp (fun h => h) (fun h => ⟨_, h, by simp⟩))
      obtain ⟨n6, c6, f6, hM⟩ := hM
      obtain ⟨a6, cp6, rfl, _⟩ := hr6.shape
      refine hK.out _ _ n6 (fun hHeld => ?_)
      clear hK K
      try simp only [Act.put, List.setIfInBounds_toArray]
      refine Wh.take (i := 14) (d := some 49) (v := ?v12) rfl (by rfl) (by kernel_rfl) (by kernel_rfl) (by kernel_rfl) (fun _ _ _ h => h) (Or.inl ⟨by rfl, ?h12⟩) n6 ?r12
      case h12 => (intro w hSw; (try dsimp only at hSw); go_simp; all_goals (try with_reducible rfl))
      simp only [Act.put]
      refine Wh.take (i := 15) (d := some 50) (v := ?v13) rfl (by rfl) (by kernel_rfl) (by kernel_rfl) (by kernel_rfl) (fun _ _ _ h => h) (Or.inl ⟨by rfl, ?h13⟩) n6 ?r13
      case h13 => (intro w hSw; (try dsimp only at hSw); go_simp; all_goals (try with_reducible rfl))
      simp only [Act.put]
      refine wpAnyH_ready (rs := [16]) (by kernel_rfl) (by simp) ?_
      refine AllReadyH.cons rfl (fun K hK => ?_) AllReadyH.nil
      go_simp
      refine hK.out _ _ (Rw.now_far n6 _) (fun hHeld => ?_)
      clear hK K
      refine wpAnyH_done (by kernel_rfl) ?_ _
      try simp only [Act.put, List.setIfInBounds_toArray, List.set_cons_zero, List.set_cons_succ]
      obtain ⟨h7, o7⟩ := hM
      rw [show (ld ++ [(E : Int)]).length = ld.length + 1 by simp] at h7 o7
      try rw [show (ld ++ [(E : Int)]).length = ld.length + 1 by simp]
      generalize World.setCell w6 ⟨r, 2, none⟩ (.slice a6 (ld.length + 1) cp6) = w7 at h7 o7 ⊢
      clear hr6 hg6 hor6 hG n6 c6 f6 hHeld
      go_wp2_with fail
      go_ret
      exact ⟨by rw [HSET.out]; rfl, by rw [HSET.out]; exact Rw.fin HL1.out HL2.out o1 o4 o7 h7, Rw.fino o1 o4 o7⟩
    · go_simp
      refine hK.out _ _ (Wh.cell_same (((Only.refl NoBlock _).alloc _)) n0) (fun hHeld => ?_)
      clear hK K
      try simp only [Act.put, List.setIfInBounds_toArray, List.set_cons_zero, List.set_cons_succ]
      have c4a := Wh.cell_same ((Only.refl NoBlock w4.drew).alloc (Obj.cells #[.int .u64 (E : Int)] 33)) c4
      have c4b := Wh.cell_same (((Only.refl NoBlock w4).alloc (Obj.cells #[.int .u64 (E : Int)] 33)).drew) c4
      refine wpAnyH_ready (rs := [4]) (by kernel_rfl) (by simp) ?_
      refine AllReadyH.cons rfl (fun K hK => ?_) AllReadyH.nil
      go_simp
      refine hK.out _ _ (Wh.cell_same (((Only.refl NoBlock _).alloc _)) n0) (fun hHeld => ?_)
      clear hK K
      try simp only [Act.put, List.setIfInBounds_toArray, List.set_cons_zero, List.set_cons_succ]
      refine wpAnyH_ready (rs := [13]) (by kernel_rfl) (by simp) ?_
      refine AllReadyH.cons rfl (fun K hK => ?_) AllReadyH.nil
      refine Rw.step_append_row _ 40 33 .u64 Rw.u_u Rw.i_u (by rfl) _ _ (by rfl) 0 (.slice ad4 ld.length cd4) ld [(E : Int)] ⟨w4.heap.size, 0, none⟩ 1 1 (by rfl) (hrd4.keeps (((Only.refl NoBlock _).alloc _).drew) (fun _ _ h => h)) (by rfl) (by rfl) (fun j hj => Rw.one_cell _ _ _ _ (by rfl) j hj) (by simp; omega) (Nat.zero_le _) ?_
      intro v6 w6 hr6 hg6 hor6
      have hG := Wh.grown_pre (((Only.refl NoBlock w4).alloc _).drew) hg6
      have hM := Rw.push2 h4 hr6 hG c4 (hor6.imp (fun h => h) (fun h => ⟨_, h, by simp⟩))
      obtain ⟨n6, c6, f6, hM⟩ := hM
      obtain ⟨a6, cp6, rfl, _⟩ := hr6.shape
      refine hK.out _ _ n6 (fun hHeld => ?_)
      clear hK K
      try simp only [Act.put, List.setIfInBounds_toArray]
      refine Wh.take (i := 14) (d := some 49) (v := ?v14) rfl (by rfl) (by kernel_rfl) (by kernel_rfl) (by kernel_rfl) (fun _ _ _ h => h) (Or.inl ⟨by rfl, ?h14⟩) n6 ?r14
      case h14 => (intro w hSw; (try dsimp only at hSw); go_simp; all_goals (try with_reducible rfl))
      simp only [Act.put]
      refine Wh.take (i := 15) (d := some 50) (v := ?v15) rfl (by rfl) (by kernel_rfl) (by kernel_rfl) (by kernel_rfl) (fun _ _ _ h => h) (Or.inl ⟨by rfl, ?h15⟩) n6 ?r15
      case h15 => (intro w hSw; (try dsimp only at hSw); go_simp; all_goals (try with_reducible rfl))
      simp only [Act.put]
      refine wpAnyH_ready (rs := [16]) (by kernel_rfl) (by simp) ?_
      refine AllReadyH.cons rfl (fun K hK => ?_) AllReadyH.nil
      go_simp
      refine hK.out _ _ (Rw.now_far n6 _) (fun hHeld => ?_)
      clear hK K
      refine wpAnyH_done (by kernel_rfl) ?_ _
      try simp only [Act.put, List.setIfInBounds_toArray, List.set_cons_zero, List.set_cons_succ]
      obtain ⟨h7, o7⟩ := hM
      rw [show (ld ++ [(E : Int)]).length = ld.length + 1 by simp] at h7 o7
      try rw [show (ld ++ [(E : Int)]).length = ld.length + 1 by simp]
      generalize World.setCell w6 ⟨r, 2, none⟩ (.slice a6 (ld.length + 1) cp6) = w7 at h7 o7 ⊢
      clear hr6 hg6 hor6 hG n6 c6 f6 hHeld
      go_wp2_with fail
      go_ret
      exact ⟨by rw [HSET.out]; rfl, by rw [HSET.out]; exact Rw.fin HL1.out HL2.out o1 o4 o7 h7, Rw.fino o1 o4 o7⟩
  | false =>
    have hA1' : A1 = A := by rw [← hA1, Wh.dropA_none hbH]
    by_cases h64 : A.length = 64
    · have HSET : RowKit.Hid (Wh.setA A now turn id d = (A, 11, turn)) := Lib.hid (Wh.setA_full HD.out hbH h64)
      clear hA1
      subst hA1'
      have hb64 : ((A1.length : Int) == 64) = true := by rw [beq_iff_eq]; omega
      clear hbH hE h64
      go_upto_region 3 with fail
      go_wp2_with fail
      refine hst.mono ?_
      rintro e w1 ⟨rfl, h1, o1⟩
      clear hst
      obtain ⟨vi, vd, hb, hri, hrest⟩ := _root_.id h1
      obtain ⟨ai, ci, rfl, _⟩ := hri.shape
      have c1 : w1.cell? ⟨r, 1, none⟩ = some (.slice ai A1.length ci) := by rw [hb.cell]; simp
      clear hb hri hrest
      go_wp2_with fail
      go_ret
      exact ⟨by rw [HSET.out]; rfl, by rw [HSET.out]; exact h1, o1⟩
    · have HSET : RowKit.Hid (Wh.setA A now turn id d = (A1 ++ [⟨id, E, turn + 1⟩], 0, turn + 1)) := Lib.hid (by rw [Wh.setA_new HD.out hbH h64, hA1', hE])
      have hal : A1.length ≤ 64 := by rw [hA1']; exact hlen
      have hb64 : ((A1.length : Int) == 64) = false := by rw [beq_eq_false_iff_ne, hA1']; omega
      clear hbH hA1 hE h64 hA1'
      go_upto_region 3 with fail
      go_wp2_with fail
      refine hst.mono ?_
      rintro e w1 ⟨rfl, h1, o1⟩
      clear hst
      obtain ⟨vi, vd, hb, hri, hrest⟩ := _root_.id h1
      obtain ⟨ai, ci, rfl, _⟩ := hri.shape
      have c1 : w1.cell? ⟨r, 1, none⟩ = some (.slice ai A1.length ci) := by rw [hb.cell]; simp
      clear hb hri hrest
      go_upto_region 5 with fail
      clear c1 hb64
      have hz1 : (A1.map (·.id)).length ≤ 1000 := by rw [List.length_map]; omega
      have hz2 : (A1.map (fun t => (t.due : Int))).length ≤ 1000 := by rw [List.length_map]; omega
      have HL1 : RowKit.Hid ((A1 ++ [(⟨id, E, turn + 1⟩ : Wh.Tm)]).map (·.id) = A1.map (·.id) ++ [id]) := Lib.hid (by rw [List.map_append]; rfl)
      have HL2 : RowKit.Hid ((A1 ++ [(⟨id, E, turn + 1⟩ : Wh.Tm)]).map (fun t : Wh.Tm => (t.due : Int)) = A1.map (fun t => (t.due : Int)) ++ [(E : Int)]) := Lib.hid (by rw [List.map_append]; rfl)
      replace h1 : Rw.Raw w1 (Rw.plus R w w1) r now (A1.map (·.id)) (A1.map (fun t => (t.due : Int))) := h1
      obtain ⟨li, hli⟩ : ∃ li, A1.map (·.id) = li := ⟨_, rfl⟩
      obtain ⟨ld, hld⟩ : ∃ ld, A1.map (fun t => (t.due : Int)) = ld := ⟨_, rfl⟩
      rw [hli] at h1 hz1 HL1
      rw [hld] at h1 hz2 HL2
      clear hli hld
      obtain ⟨vi, vd, hb, hri, hrd, hRr, hRi, hRd⟩ := _root_.id h1
      obtain ⟨ai, ci, rfl, _⟩ := hri.shape
      have c1 : w1.cell? ⟨r, 1, none⟩ = some (.slice ai li.length ci) := by rw [hb.cell]; rfl
      go_upto_region 6 with (first
        | (at_builtin; refine Rw.wpList_append_row _ 27 3 .i64 Rw.u_i Rw.i_i rfl _ _ rfl 0 (.slice ai li.length ci) li [id] ⟨w1.heap.size, 0, none⟩ 1 1 rfl (hri.keeps ((Only.refl NoBlock _).alloc _) (fun _ _ h => h)) rfl rfl (fun j hj => Rw.one_celli _ _ _ _ rfl j hj) (by simp; omega) (Nat.zero_le _) ?_; intro v3 w3 hr3 hg3 hor3; have hM3 := Rw.push1 hb hri hrd hRr hRi hRd hr3 (Wh.grown_pre ((Only.refl NoBlock w1).alloc _) hg3) (hor3.imp (fun h => h) (fun h => ⟨_, h, by simp⟩)); obtain ⟨c3, f3, hM3⟩ := hM3; obtain ⟨a3, cp3, rfl, _⟩ := hr3.shape))
      obtain ⟨h4, o4⟩ := hM3
      rw [show (li ++ [id]).length = li.length + 1 by simp] at h4 o4
      generalize World.setCell w3 ⟨r, 1, none⟩ (.slice a3 (li.length + 1) cp3) = w4 at h4 o4 ⊢
      clear hr3 hg3 hor3 c3 f3 hb hri hrd hRr hRi hRd c1 h1
      obtain ⟨vi4, vd4, hb4, hri4, hrd4, _, _, _⟩ := _root_.id h4
      obtain ⟨ad4, cd4, rfl, _⟩ := hrd4.shape
      have n0 : w4.drew.cell? ⟨r, 0, none⟩ = some (.int .u64 now) := by rw [hb4.drew.cell]; rfl
      have c4 : w4.drew.cell? ⟨r, 2, none⟩ = some (.slice ad4 ld.length cd4) := by rw [hb4.drew.cell]; rfl
      have hcv : IntKind.u64.wrap d = d := by rw [IntKind.wrap_u64]; have := HD.out; omega
      have hsum : IntKind.u64.wrap ((now : Int) + d) = (E : Int) := by rw [IntKind.wrap_u64]; have := HD.out; have := HE.out; omega
      refine wp_region_held_drew (S := fun w' => w'.cell? ⟨r, 0, none⟩ = some (.int .u64 now)) (by kernel_rfl) n0 (fun hHeld => ?_)
      refine Wh.take (i := 0) (d := some 35) (v := ?v16) rfl (by rfl) (by kernel_rfl) (by kernel_rfl) (by kernel_rfl) (fun _ _ _ h => h) (Or.inl ⟨by rfl, ?h16⟩) n0 ?r16
      case h16 => (intro w hSw; (try dsimp only at hSw); go_simp; all_goals (try with_reducible rfl))
      simp only [Act.put, List.setIfInBounds_toArray, List.set_cons_zero, List.set_cons_succ]
      refine Wh.take (i := 1) (d := some 36) (v := ?v17) rfl (by rfl) (by kernel_rfl) (by kernel_rfl) (by kernel_rfl) (fun _ _ _ h => h) (Or.inl ⟨by rfl, ?h17⟩) n0 ?r17
      case h17 => (intro w hSw; (try dsimp only at hSw); go_simp; all_goals (try with_reducible rfl))
      simp only [Act.put, List.setIfInBounds_toArray, List.set_cons_zero, List.set_cons_succ]
      refine Wh.take (i := 2) (d := some 37) (v := ?v18) rfl (by rfl) (by kernel_rfl) (by kernel_rfl) (by kernel_rfl) (fun _ _ _ h => h) (Or.inl ⟨by rfl, ?h18⟩) n0 ?r18
      case h18 => (intro w hSw; (try dsimp only at hSw); go_simp; all_goals (try with_reducible rfl))
      simp only [Act.put, List.setIfInBounds_toArray, List.set_cons_zero, List.set_cons_succ]
      refine Wh.take (i := 3) (d := some 38) (v := ?v19) rfl (by rfl) (by kernel_rfl) (by kernel_rfl) (by kernel_rfl) (fun _ _ _ h => h) (Or.inl ⟨by rfl, ?h19⟩) n0 ?r19
      case h19 => (intro w hSw; (try dsimp only at hSw); go_simp; all_goals (try with_reducible rfl))
      simp only [Act.put, List.setIfInBounds_toArray, List.set_cons_zero, List.set_cons_succ]
      refine Wh.take (i := 5) (d := some 40) (v := ?v20) rfl (by rfl) (by kernel_rfl) (by kernel_rfl) (by kernel_rfl) (fun _ _ _ h => h) (Or.inl ⟨by rfl, ?h20⟩) n0 ?r20
      case h20 => (intro w hSw; (try dsimp only at hSw); go_simp; all_goals (try with_reducible rfl))
      simp only [Act.put, List.setIfInBounds_toArray, List.set_cons_zero, List.set_cons_succ]
      refine Wh.take (i := 6) (d := some 41) (v := ?v21) rfl (by rfl) (by kernel_rfl) (by kernel_rfl) (by kernel_rfl) (fun _ _ _ h => h) (Or.inl ⟨by rfl, ?h21⟩) n0 ?r21
      case h21 => (intro w hSw; (try dsimp only at hSw); go_simp; all_goals (try with_reducible rfl))
      simp only [Act.put, List.setIfInBounds_toArray, List.set_cons_zero, List.set_cons_succ]
      refine Wh.take (i := 7) (d := some 42) (v := ?v22) rfl (by rfl) (by kernel_rfl) (by kernel_rfl) (by kernel_rfl) (fun _ _ _ h => h) (Or.inl ⟨by rfl, ?h22⟩) n0 ?r22
      case h22 => (intro w hSw; (try dsimp only at hSw); go_simp; all_goals (try with_reducible rfl))
      simp only [Act.put, List.setIfInBounds_toArray, List.set_cons_zero, List.set_cons_succ]
      refine Wh.take (i := 8) (d := some 43) (v := ?v23) rfl (by rfl) (by kernel_rfl) (by kernel_rfl) (by kernel_rfl) (fun _ _ _ h => h) (Or.inl ⟨by rfl, ?h23⟩) n0 ?r23
      case h23 => (intro w hSw; (try dsimp only at hSw); go_simp; all_goals (try with_reducible rfl))
      simp only [Act.put, List.setIfInBounds_toArray, List.set_cons_zero, List.set_cons_succ]
      refine Wh.take (i := 9) (d := some 44) (v := ?v24) rfl (by rfl) (by kernel_rfl) (by kernel_rfl) (by kernel_rfl) (fun _ _ _ h => h) (Or.inl ⟨by rfl, ?h24⟩) n0 ?r24
      case h24 => (intro w hSw; (try dsimp only at hSw); go_simp; all_goals (try with_reducible rfl))
      simp only [Act.put, List.setIfInBounds_toArray, List.set_cons_zero, List.set_cons_succ]
      refine Wh.take (i := 10) (d := some 45) (v := ?v25) rfl (by rfl) (by kernel_rfl) (by kernel_rfl) (by kernel_rfl) (fun _ _ _ h => h) (Or.inl ⟨by rfl, ?h25⟩) n0 ?r25
      case h25 => (intro w hSw; (try dsimp only at hSw); go_simp; all_goals (try with_reducible rfl))
      simp only [Act.put, List.setIfInBounds_toArray, List.set_cons_zero, List.set_cons_succ]
      refine Wh.take (i := 11) (d := some 46) (v := ?v26) rfl (by rfl) (by kernel_rfl) (by kernel_rfl) (by kernel_rfl) (fun _ _ _ h => h) (Or.inl ⟨by rfl, ?h26⟩) n0 ?r26
      case h26 => (intro w hSw; (try dsimp only at hSw); go_simp; all_goals (try with_reducible rfl))
      simp only [Act.put, List.setIfInBounds_toArray, List.set_cons_zero, List.set_cons_succ]
      refine wpAnyH_ready (rs := [4, 12]) (by kernel_rfl) (by simp) ?_
      refine AllReadyH.cons rfl (fun K hK => ?_) (AllReadyH.cons rfl (fun K hK => ?_) AllReadyH.nil)
      · go_simp
        refine hK.out _ _ n0 (fun hHeld => ?_)
        clear hK K
        try simp only [Act.put, List.setIfInBounds_toArray, List.set_cons_zero, List.set_cons_succ]
        refine wpAnyH_ready (rs := [12]) (by kernel_rfl) (by simp) ?_
        refine AllReadyH.cons rfl (fun K hK => ?_) AllReadyH.nil
        go_simp
        refine hK.out _ _ (Wh.cell_same (((Only.refl NoBlock _).alloc _)) n0) (fun hHeld => ?_)
        clear hK K
        try simp only [Act.put, List.setIfInBounds_toArray, List.set_cons_zero, List.set_cons_succ]
        refine wpAnyH_ready (rs := [13]) (by kernel_rfl) (by simp) ?_
        refine AllReadyH.cons rfl (fun K hK => ?_) AllReadyH.nil
        refine Rw.step_append_row _ 40 33 .u64 Rw.u_u Rw.i_u (by rfl) _ _ (by rfl) 0 (.slice ad4 ld.length cd4) ld [(E : Int)] ⟨w4.heap.size, 0, none⟩ 1 1 (by rfl) (hrd4.keeps (((Only.refl NoBlock _).alloc _).drew) (fun _ _ h => h)) (by rfl) (by rfl) (fun j hj => Rw.one_cell _ _ _ _ (by rfl) j hj) (by simp; omega) (Nat.zero_le _) ?_
        intro v6 w6 hr6 hg6 hor6
        have hG := Wh.grown_pre (((Only.refl NoBlock w4).alloc _).drew) hg6
        have hM := Rw.push2 h4 hr6 hG c4 (hor6.imp (fun h => h) (fun h => ⟨_, h, by simp⟩))
        obtain ⟨n6, c6, f6, hM⟩ := hM
        obtain ⟨a6, cp6, rfl, _⟩ := hr6.shape
        refine hK.out _ _ n6 (fun hHeld => ?_)
        clear hK K
        try simp only [Act.put, List.setIfInBounds_toArray]
        refine Wh.take (i := 14) (d := some 49) (v := ?v27) rfl (by rfl) (by kernel_rfl) (by kernel_rfl) (by kernel_rfl) (fun _ _ _ h => h) (Or.inl ⟨by rfl, ?h27⟩) n6 ?r27
        case h27 => (intro w hSw; (try dsimp only at hSw); go_simp; all_goals (try with_reducible rfl))
        simp only [Act.put]
        refine Wh.take (i := 15) (d := some 50) (v := ?v28) rfl (by rfl) (by kernel_rfl) (by kernel_rfl) (by kernel_rfl) (fun _ _ _ h => h) (Or.inl ⟨by rfl, ?h28⟩) n6 ?r28
        case h28 => (intro w hSw; (try dsimp only at hSw); go_simp; all_goals (try with_reducible rfl))
        simp only [Act.put]
        refine wpAnyH_ready (rs := [16]) (by kernel_rfl) (by simp) ?_
        refine AllReadyH.cons rfl (fun K hK => ?_) AllReadyH.nil
        go_simp
        refine hK.out _ _ (Rw.now_far n6 _) (fun hHeld => ?_)
        clear hK K
        refine wpAnyH_done (by kernel_rfl) ?_ _
        try simp only [Act.put, List.setIfInBounds_toArray, List.set_cons_zero, List.set_cons_succ]
        obtain ⟨h7, o7⟩ := hM
        rw [show (ld ++ [(E : Int)]).length = ld.length + 1 by simp] at h7 o7
        try rw [show (ld ++ [(E : Int)]).length = ld.length + 1 by simp]
        generalize World.setCell w6 ⟨r, 2, none⟩ (.slice a6 (ld.length + 1) cp6) = w7 at h7 o7 ⊢
        clear hr6 hg6 hor6 hG n6 c6 f6 hHeld
        go_wp2_with fail
        go_ret
        exact ⟨by rw [HSET.out]; rfl, by rw [HSET.out]; exact Rw.fin HL1.out HL2.out o1 o4 o7 h7, Rw.fino o1 o4 o7⟩
      · go_simp
        refine hK.out _ _ (Wh.cell_same (((Only.refl NoBlock _).alloc _)) n0) (fun hHeld => ?_)
        clear hK K
        try simp only [Act.put, List.setIfInBounds_toArray, List.set_cons_zero, List.set_cons_succ]
        have c4a := Wh.cell_same ((Only.refl NoBlock w4.drew).alloc (Obj.cells #[.int .u64 (E : Int)] 33)) c4
        have c4b := Wh.cell_same (((Only.refl NoBlock w4).alloc (Obj.cells #[.int .u64 (E : Int)] 33)).drew) c4
        refine wpAnyH_ready (rs := [4]) (by kernel_rfl) (by simp) ?_
        refine AllReadyH.cons rfl (fun K hK => ?_) AllReadyH.nil
        go_simp
        refine hK.out _ _ (Wh.cell_same (((Only.refl NoBlock _).alloc _)) n0) (fun hHeld => ?_)
        clear hK K
        try simp only [Act.put, List.setIfInBounds_toArray, List.set_cons_zero, List.set_cons_succ]
        refine wpAnyH_ready (rs := [13]) (by kernel_rfl) (by simp) ?_
        refine AllReadyH.cons rfl (fun K hK => ?_) AllReadyH.nil
        refine Rw.step_append_row _ 40 33 .u64 Rw.u_u Rw.i_u (by rfl) _ _ (by rfl) 0 (.slice ad4 ld.length cd4) ld [(E : Int)] ⟨w4.heap.size, 0, none⟩ 1 1 (by rfl) (hrd4.keeps (((Only.refl NoBlock _).alloc _).drew) (fun _ _ h => h)) (by rfl) (by rfl) (fun j hj => Rw.one_cell _ _ _ _ (by rfl) j hj) (by simp; omega) (Nat.zero_le _) ?_
        intro v6 w6 hr6 hg6 hor6
        have hG := Wh.grown_pre (((Only.refl NoBlock w4).alloc _).drew) hg6
        have hM := Rw.push2 h4 hr6 hG c4 (hor6.imp (fun h => h) (fun h => ⟨_, h, by simp⟩))
        obtain ⟨n6, c6, f6, hM⟩ := hM
        obtain ⟨a6, cp6, rfl, _⟩ := hr6.shape
        refine hK.out _ _ n6 (fun hHeld => ?_)
        clear hK K
        try simp only [Act.put, List.setIfInBounds_toArray]
        refine Wh.take (i := 14) (d := some 49) (v := ?v29) rfl (by rfl) (by kernel_rfl) (by kernel_rfl) (by kernel_rfl) (fun _ _ _ h => h) (Or.inl ⟨by rfl, ?h29⟩) n6 ?r29
        case h29 => (intro w hSw; (try dsimp only at hSw); go_simp; all_goals (try with_reducible rfl))
        simp only [Act.put]
        refine Wh.take (i := 15) (d := some 50) (v := ?v30) rfl (by rfl) (by kernel_rfl) (by kernel_rfl) (by kernel_rfl) (fun _ _ _ h => h) (Or.inl ⟨by rfl, ?h30⟩) n6 ?r30
        case h30 => (intro w hSw; (try dsimp only at hSw); go_simp; all_goals (try with_reducible rfl))
        simp only [Act.put]
        refine wpAnyH_ready (rs := [16]) (by kernel_rfl) (by simp) ?_
        refine AllReadyH.cons rfl (fun K hK => ?_) AllReadyH.nil
        go_simp
        refine hK.out _ _ (Rw.now_far n6 _) (fun hHeld => ?_)
        clear hK K
        refine wpAnyH_done (by kernel_rfl) ?_ _
        try simp only [Act.put, List.setIfInBounds_toArray, List.set_cons_zero, List.set_cons_succ]
        obtain ⟨h7, o7⟩ := hM
        rw [show (ld ++ [(E : Int)]).length = ld.length + 1 by simp] at h7 o7
        try rw [show (ld ++ [(E : Int)]).length = ld.length + 1 by simp]
        generalize World.setCell w6 ⟨r, 2, none⟩ (.slice a6 (ld.length + 1) cp6) = w7 at h7 o7 ⊢
        clear hr6 hg6 hor6 hG n6 c6 f6 hHeld
        go_wp2_with fail
        go_ret
        exact ⟨by rw [HSET.out]; rfl, by rw [HSET.out]; exact Rw.fin HL1.out HL2.out o1 o4 o7 h7, Rw.fino o1 o4 o7⟩
end Go.Proofs.Ytklpdkojffaiiaa
