/- A timer is put to its place. -/
import Derived.Test.YtklpdkojffaiiaaWheelW
import Derived.Deep.RegionLaw
import Derived.Deep.RegionHeld3
import Derived.Maps.AppendAt
namespace Go.Proofs.Ytklpdkojffaiiaa
open Go.RowKit Go.Shelf
set_option maxRecDepth 100000

def Wh.sh : Value := .agg #[.int .u64 0, .int .u64 6, .int .u64 13, .int .u64 21]
theorem shifts_at (w : World) : Calls Try.prog 24 #[] w fun e w' => e = .returned Wh.sh ∧ Only NoBlock w w' := by
  go_enter Try.func24, Try.ntmps24
  go_wp2_with fail
  refine bodyPost_ret (v := Wh.sh) ?_ rfl ⟨rfl, (Only.refl _ _).alloc _⟩
  have cb := Blk.made w #[.int .u64 0, .int .u64 6, .int .u64 13, .int .u64 21] 55
  have c0 := cb.cell 0
  have c1 := cb.cell 1
  have c2 := cb.cell 2
  have c3 := cb.cell 3
  simp at c0 c1 c2 c3
  simp [results, Try.f24, go_sem, Wh.sh]
namespace Wh
/-- the place of a timer: the list's number -/
def place (now due : Nat) : Nat := if due / 64 = now / 64 then due % 64 else if due / 8192 = now / 8192 then 64 + due / 64 % 128 else if due / 2097152 = now / 2097152 then 192 + due / 8192 % 256 else 448
theorem place_lt (now due : Nat) : place now due < 449 := by unfold place; split; omega; split; omega; split <;> omega
theorem mask {x : Nat} (j : Nat) (hj : j ≤ 64) (hx : x < 18446744073709551616) : bits .and .u64 (x : Int) (2 ^ j - 1) = ((x % 2 ^ j : Nat) : Int) := by
  rw [bits_mask .u64 64 (by decide) (fun n h0 h1 => by rw [IntKind.wrap_u64]; omega) j hj x (by omega) (by omega)]
  norm_cast
theorem base_le {w : World} {base p r0 r1 r2 : Nat} {X : Nat → Prop} {M : Wl} (h : WheelAt w base X p r0 r1 r2 M) : base ≤ w.heap.size := by
  obtain ⟨c, hb, -⟩ := h.bp
  have := hb.lt; have := h.low.1; omega
theorem loc0 {p r0 r1 r2 k : Nat} (h : k < 64) : loc p r0 r1 r2 k = ⟨r0, k, none⟩ := by unfold loc; rw [if_pos h]
theorem loc1 {p r0 r1 r2 k : Nat} (h : k < 128) : loc p r0 r1 r2 (64 + k) = ⟨r1, k, none⟩ := by unfold loc; rw [if_neg (by omega), if_pos (by omega), Nat.add_sub_cancel_left]
theorem loc2 {p r0 r1 r2 k : Nat} (h : k < 256) : loc p r0 r1 r2 (192 + k) = ⟨r2, k, none⟩ := by unfold loc; rw [if_neg (by omega), if_neg (by omega), if_pos (by omega), Nat.add_sub_cancel_left]
theorem tm_made (w : World) (i : Int) (d : Nat) (u : Int) (t : TypeId) {n : Nat} (hn : n = w.heap.size) : (w.alloc (.cells #[.int .i64 i, .int .u64 d, .int .i64 u] t)).cell? ⟨n, 0, none⟩ = some (.int .i64 i) ∧ (w.alloc (.cells #[.int .i64 i, .int .u64 d, .int .i64 u] t)).cell? ⟨n, 1, none⟩ = some (.int .u64 d) ∧ (w.alloc (.cells #[.int .i64 i, .int .u64 d, .int .i64 u] t)).cell? ⟨n, 2, none⟩ = some (.int .i64 u) := by
  subst hn
  have hb := Blk.made w #[.int .i64 i, .int .u64 d, .int .i64 u] t
  exact ⟨by rw [hb.cell]; rfl, by rw [hb.cell]; rfl, by rw [hb.cell]; rfl⟩
theorem grown_pre {a b c : World} {row : Option Nat} (ho : Only NoBlock a b) (hg : b.grownBy c row) : a.grownBy c row :=
  ⟨hg.os.trans ho.os, hg.tape.trans ho.tape, hg.output.trans ho.output, Nat.le_trans ho.size hg.size, fun k hk hne => (hg.block k (Nat.lt_of_lt_of_le hk ho.size) hne).trans (ho.block k hk (fun h => h))⟩
theorem run_append_tm (w : World) (ty : TypeId) (base : Nat) (v : Value) (l : List Tm) (e : Tm) (he : e.Wf) (b : Nat) (n : Nat) (hown : Tms w base v l)
    (c0 : w.cell? ⟨b, 0, none⟩ = some (.int .i64 e.id)) (c1 : w.cell? ⟨b, 1, none⟩ = some (.int .u64 e.due)) (c2 : w.cell? ⟨b, 2, none⟩ = some (.int .i64 e.turn))
    (hlen : l.length < 1000000) (hbase : base ≤ w.heap.size) :
    ∃ v' w', (Builtin.append_ #[47, 47] ty #[v, .slice (some ⟨b, 0, none⟩) 1 n]).run Try.prog w = .ok v' w' ∧ Tms w' base v' (l ++ [e]) ∧ w.grownBy w' v.ownBlock ∧ (v'.ownBlock = v.ownBlock ∨ v'.ownBlock = some w.heap.size) := by
  obtain ⟨i, hi, hz, hsz, hby⟩ := info_parts info_tm
  have hwf : ∀ x ∈ l ++ [e], x.Wf := by
    intro x hx
    rcases List.mem_append.1 hx with hx | hx
    · exact hown.2.1 x hx
    · simp at hx; subst hx; exact he
  have hcs : ∀ j u, e.cells[j]? = some u → w.cell? ((⟨b, 0, none⟩ : Addr).add j) = some u := by
    intro j u hj
    rw [Addr.add_lit, Nat.zero_add]
    match j, hj with
    | 0, hj => cases hj; exact c0
    | 1, hj => cases hj; exact c1
    | 2, hj => cases hj; exact c2
    | j + 3, hj => cases hj
  rcases hown.1 with hown1 | ⟨g, cs, rfl, hb, hg, hz3, htk⟩
  · obtain ⟨v', w', hr, h2, h3, _, h5⟩ := run_append_own_at (P := Try.prog) w base 47 ty 53 i _ 3 24 u_tms hi hz hsz hby rfl (by decide) v l.length _ hown1 ⟨b, 0, none⟩ 1 n e.cells (by rfl) hcs (by intro u hu; simp [Tm.cells] at hu; rcases hu with rfl | rfl | rfl <;> rfl) (by unfold maxLen; omega) (by omega) hbase
    refine ⟨v', w', hr, ⟨.inl ?_, hwf, ?_⟩, h3, h5⟩
    · rw [List.flatMap_append, List.length_append]
      simpa using h2
    · simp; omega
  · have hr := run_append_grow (P := Try.prog) w 47 ty 53 i _ u_tms hi hz ⟨g, 0, none⟩ l.length l.length (l.flatMap Tm.cells) (by rw [flat_length, hsz]) (by
      intro j u hj
      rw [Addr.add_lit, Nat.zero_add, cell_of_row w g j cs 53 (0, 0) hg, ← hj, ← htk, List.getElem?_take, if_pos]
      · simp
      · rw [← flat_length]; exact (List.getElem?_eq_some_iff.1 hj).1) ⟨b, 0, none⟩ 1 n e.cells (by rw [hsz]; rfl) hcs (by omega) (by omega) (growslice_fits (by omega) (by rw [hby]; omega))
    have hge := grownCap_ge w (l.length + 1) l.length 53
    have hmax := grownCap_le_maxLen w (l.length + 1) l.length 53 (by unfold maxLen; omega)
    generalize grownCap w (l.length + 1) l.length 53 = C at hr hge hmax
    have hfl := flat_length l
    have hrow : (w.drew.alloc (.cells ((l.flatMap Tm.cells).toArray ++ e.cells.toArray ++ Builtin.zeroCells (Value.agg #[.int .i64 0, .int .u64 0, .int .i64 0]).cells (C - (l.length + 1))) 53)).ownsRow base 53 3 (.slice (some ⟨w.heap.size, 0, none⟩) (l.length + 1) C) (l.length + 1) (l.flatMap Tm.cells ++ e.cells) := by
      refine ⟨by rw [List.length_append, hfl]; show l.length * 3 + 3 = _; omega, .inr ⟨w.heap.size, C, _, rfl, hbase, heap_alloc_new w.drew _, hge, hmax, ?_, ?_⟩⟩
      · simp only [Array.size_append, List.size_toArray, size_zeroCells, hfl, Value.cells]
        show l.length * 3 + 3 + (C - (l.length + 1)) * 3 = _
        omega
      · simp only [Array.toList_append]
        have hz : (l.flatMap Tm.cells ++ e.cells).length = (l.length + 1) * 3 := by rw [List.length_append, hfl]; show l.length * 3 + 3 = _; omega
        rw [← hz]
        exact List.take_left
    refine ⟨_, _, hr, ⟨.inl ?_, hwf, by simp; omega⟩, ⟨rfl, rfl, rfl, by simp, fun k hk _ => heap_alloc_old w.drew _ k hk⟩, .inr (by simp [Value.ownBlock])⟩
    rw [List.flatMap_append, List.length_append]
    simpa using hrow
/-- 'append' of a timer, as one step of a region that draws -/
theorem step_append_tm {ops : Array Oper} {o : Oper} {a : Act} {Q : Exit → Act → World → Prop} {K : Act → World → Prop} {E : Prop} (w : World) (hgd : o.guard = none) (s x : Operand) (ho : o.op = .call { callee := .builtin .append, args := #[s, x], argTypes := #[47, 47] })
    (base : Nat) (v : Value) (l : List Tm) (e : Tm) (he : e.Wf) (b : Nat) (n : Nat) (hs : a.eval s = v) (hown : Tms w base v l) (hx : a.eval x = .slice (some ⟨b, 0, none⟩) 1 n)
    (c : w.cell? ⟨b, 0, none⟩ = some (.int .i64 e.id) ∧ w.cell? ⟨b, 1, none⟩ = some (.int .u64 e.due) ∧ w.cell? ⟨b, 2, none⟩ = some (.int .i64 e.turn))
    (hlen : l.length < 1000000) (hbase : base ≤ w.heap.size)
    (h : ∀ v' w', Tms w' base v' (l ++ [e]) → w.grownBy w' v.ownBlock → (v'.ownBlock = v.ownBlock ∨ v'.ownBlock = some w.heap.size) → K (a.put o.dst v') w') : if Region.wanted o (yielded ops a.tmps) = true then Oper.wp Try.prog o a w K Q else E := by
  have hw : Region.wanted o (yielded ops a.tmps) = true := by simp [Region.wanted, hgd]
  rw [if_pos hw]
  unfold Oper.wp execOp
  simp only [ho, resolve, invoke, builtin, Sem.run_bind, Sem.run_pure, Result.andThen_ok, List.map_toArray, List.map_cons, List.map_nil, hs, hx]
  obtain ⟨v', w', hr, h2, h3, h5⟩ := run_append_tm w o.type base v l e he b n hown c.1 c.2.1 c.2.2 hlen hbase
  rw [hr]
  exact h v' w' h2 h3 h5
theorem Vals.keeps {w w' : World} {base p r0 r1 r2 : Nat} {X : Nat → Prop} {M : Wl} {V : Nat → Value} (h : Vals w base X p r0 r1 r2 M V) (ho : Only NoBlock w w') : Vals w' base X p r0 r1 r2 M V :=
  ⟨fun q hq => ⟨cell_same ho (h.at_ q hq).1, (h.at_ q hq).2.keeps ho (fun _ _ h => h)⟩, h.two, h.out⟩
/-- what a cell holds, or v -/
def rd (w : World) (a : Addr) (v : Value) : Value := (w.cell? a).getD v
theorem rd_some {w : World} {a : Addr} {v : Value} (h : (w.cell? a).isSome = true) : w.cell? a = some (rd w a v) := by
  obtain ⟨u, hu⟩ := Option.isSome_iff_exists.1 h
  unfold rd; rw [hu]; rfl
theorem take {P : Program} {md : Region.Mode} {ops : Array Oper} {Q : Exit → Act → World → Prop} {S : World → Prop} {i : Nat} {oi : Oper} {v : Value} {fuel : Nat} {listed : Array Bool} {a : Act} {w : World} {d : Option Tmp} (hi : ops[i]? = some oi) (hd : oi.dst = d)
    (hs : Region.noSelect ops = true) (hf : Region.free md ops listed i = true) (hr : (Region.ready md ops listed).contains i = true)
    (hQ : ∀ c a w, Q (.panic c) (a.put d v) w → Q (.panic c) a w) (hy : YieldsIf P ops S oi v a) (hS : S w)
    (h : wpAnyH P md ops Q S fuel (listed.setIfInBounds i true) (a.put d v) w) : wpAnyH P md ops Q S (fuel + 1) listed a w := by
  subst hd
  exact wpAnyH_take hi hs hf hr hQ hy hS h
theorem put_end {w w6 : World} {base p r0 r1 r2 : Nat} {X : Nat → Prop} {M : Wl} {V : Nat → Value} {q : Nat} {v' : Value} {l : List Tm} {o : Obj} (h : WheelAt w base X p r0 r1 r2 M) (hV : Vals w base X p r0 r1 r2 M V) (hq : q < 449)
    (hg : (w.alloc o).drew.grownBy w6 (V q).ownBlock) (ht : Tms w6 base v' l) (hor : v'.ownBlock = (V q).ownBlock ∨ v'.ownBlock = some (w.alloc o).drew.heap.size) :
    WheelAt (w6.setCell (loc p r0 r1 r2 q) v') base X p r0 r1 r2 (M.upd q l) ∧ Only (fun k => base ≤ k ∧ ¬ X k) w (w6.setCell (loc p r0 r1 r2 q) v') :=
  h.store hV hq (grown_pre ((Only.refl _ _).alloc o).drew hg) ht (fun b hb => by
    rcases hor with e | e
    · exact .inl (e ▸ hb)
    · rw [e] at hb; cases hb; exact .inr (by simp))
end Wh
end Go.Proofs.Ytklpdkojffaiiaa
