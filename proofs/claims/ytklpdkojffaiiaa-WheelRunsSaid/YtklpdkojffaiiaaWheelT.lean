/- The wheel in memory: its numbers are set anew, a list is taken out, a list loses one. -/
import Derived.Test.YtklpdkojffaiiaaWheelW
import Derived.ArgAppend
namespace Go.Proofs.Ytklpdkojffaiiaa
open Go.RowKit Go.Shelf
set_option maxRecDepth 100000

namespace Wh
section
variable {w w' : World} {base p r0 r1 r2 : Nat} {X : Nat → Prop} {M : Wl}
theorem WheelAt.less {Y : Nat → Prop} (h : WheelAt w base X p r0 r1 r2 M) (hy : ∀ b, Y b → X b) : WheelAt w base Y p r0 r1 r2 M := by
  obtain ⟨V, hV⟩ := h.ex
  exact { h with px := ⟨fun e => h.px.1 (hy _ e), fun e => h.px.2.1 (hy _ e), fun e => h.px.2.2.1 (hy _ e), fun e => h.px.2.2.2 (hy _ e)⟩, xlt := fun b e => h.xlt b (hy b e), ex := ⟨V, hV.at_, hV.two, fun q hq b e hb => hV.out q hq b e (hy b hb)⟩ }
/-- what keeps the cells keeps the wheel -/
theorem WheelAt.keepsC {S : Nat → Prop} (h : WheelAt w base X p r0 r1 r2 M) (ho : Only S w w') (hs : ∀ b cs t z, w.heap[b]? = some (.cells cs t z) → base ≤ b → t = 49 ∨ t = 47 ∨ t = 53 → ¬ S b) : WheelAt w' base X p r0 r1 r2 M := by
  have kb : ∀ {b cs t}, Blk w b cs t → base ≤ b → t = 49 ∨ t = 47 ∨ t = 53 → Blk w' b cs t := fun hb hle ht => hb.keeps ho (hs _ _ _ _ hb hle ht)
  obtain ⟨⟨c, h1, h1'⟩, ⟨c0, h2, h2'⟩, ⟨c1, h3, h3'⟩, ⟨c2, h4, h4'⟩, h5, h6, h7, h8, h9, h10, hx, hl, V, h11, h12, h13⟩ := h
  have cp : ∀ i, w'.cell? ⟨p, i, none⟩ = w.cell? ⟨p, i, none⟩ := fun i => by rw [h1.cell, (kb h1 h6.1 (by simp)).cell]
  have c0 : ∀ i, w'.cell? ⟨r0, i, none⟩ = w.cell? ⟨r0, i, none⟩ := fun i => by rw [h2.cell, (kb h2 h6.2.1 (by simp)).cell]
  have c1 : ∀ i, w'.cell? ⟨r1, i, none⟩ = w.cell? ⟨r1, i, none⟩ := fun i => by rw [h3.cell, (kb h3 h6.2.2.1 (by simp)).cell]
  have c2 : ∀ i, w'.cell? ⟨r2, i, none⟩ = w.cell? ⟨r2, i, none⟩ := fun i => by rw [h4.cell, (kb h4 h6.2.2.2 (by simp)).cell]
  have cl : ∀ q, w'.cell? (loc p r0 r1 r2 q) = w.cell? (loc p r0 r1 r2 q) := fun q => by
    unfold loc
    split
    · exact c0 _
    split
    · exact c1 _
    split
    · exact c2 _
    · exact cp _
  refine ⟨⟨c, kb h1 h6.1 (by simp), h1'⟩, ⟨_, kb h2 h6.2.1 (by simp), h2'⟩, ⟨_, kb h3 h6.2.2.1 (by simp), h3'⟩, ⟨_, kb h4 h6.2.2.2 (by simp), h4'⟩, h5, h6, by rw [cp, h7], by rw [cp, h8], ⟨by rw [cp, h9.1], by rw [cp, h9.2.1], by rw [cp, h9.2.2]⟩, by rw [cp, h10], hx, fun b hb => Nat.lt_of_lt_of_le (hl b hb) ho.size, V, fun q hq => ⟨by rw [cl, (h11 q hq).1], ?_⟩, h12, h13⟩
  have hT := (h11 q hq).2
  refine hT.keeps ho (fun k hk => ?_)
  obtain ⟨ao, cap, hv⟩ := hT.shape
  rw [hv] at hk hT
  rcases hT.lie with ⟨rfl, _⟩ | ⟨g, cs, rfl, hb, hg, _⟩
  · cases hk
  · cases hk
    exact hs _ _ _ _ hg hb (by simp)
theorem WheelAt.putO {l : Nat} {o o' : Obj} (h : WheelAt w base X p r0 r1 r2 M) (hl : w.heap[l]? = some o) (hn : o.isCells = false) : WheelAt (w.putObj l o') base X p r0 r1 r2 M :=
  h.keepsC (S := fun k => k = l) ((Only.of_grown (grownBy_putObj' w l o')).mono (fun k e => by cases e; rfl)) (fun b cs t z hb _ _ e => by subst e; rw [hb] at hl; cases hl; cases hn)
/-- one of the wheel's numbers is set -/
theorem WheelAt.setp (h : WheelAt w base X p r0 r1 r2 M) (i : Nat) (hi : i = 0 ∨ i = 1 ∨ i = 6) (v : Value) (M' : Wl) (hL : M'.L = M.L) (hc : (w.setCell ⟨p, i, none⟩ v).cell? ⟨p, 0, none⟩ = some (.int .u64 M'.now) ∧ (w.setCell ⟨p, i, none⟩ v).cell? ⟨p, 1, none⟩ = some (.int .i64 M'.turn) ∧ (w.setCell ⟨p, i, none⟩ v).cell? ⟨p, 6, none⟩ = some (.int .i64 M'.n)) :
    WheelAt (w.setCell ⟨p, i, none⟩ v) base X p r0 r1 r2 M' ∧ Only (fun k => base ≤ k ∧ ¬ X k) w (w.setCell ⟨p, i, none⟩ v) := by
  obtain ⟨n0, n1, n2⟩ := h.nes
  have ho : Only (fun k => base ≤ k ∧ ¬ X k) w (w.setCell ⟨p, i, none⟩ v) := (Only.refl _ _).setCell (fun _ => ⟨h.low.1, h.px.1⟩) v
  have far : ∀ j, j ≠ i → (w.setCell ⟨p, i, none⟩ v).cell? ⟨p, j, none⟩ = w.cell? ⟨p, j, none⟩ := fun j hj => World.cell?_setCell_other _ _ _ _ (fun e => by injection e with _ e2; omega)
  obtain ⟨V, hV⟩ := h.ex
  obtain ⟨cp, hbp, _⟩ := h.bp
  refine ⟨⟨blk_set h.bp _ rfl v, blk_set h.b0 _ rfl v, blk_set h.b1 _ rfl v, blk_set h.b2 _ rfl v, h.ne, h.low, hc.1, hc.2.1, ⟨by rw [far _ (by omega)]; exact h.rg.1, by rw [far _ (by omega)]; exact h.rg.2.1, by rw [far _ (by omega)]; exact h.rg.2.2⟩, hc.2.2, h.px, fun b hb => by simpa using h.xlt b hb, V, fun q hq => ⟨?_, ?_⟩, hV.two, hV.out⟩, ho⟩
  · rw [World.cell?_setCell_other _ _ _ _ (fun e => loc_not n0 n1 n2 q i (by omega) e.symm)]
    exact (hV.at_ q hq).1
  · rw [hL]
    have hT := (hV.at_ q hq).2
    exact hT.keeps (S := fun k => k = p) ((Only.refl (fun k => k = p) w).setCell (fun _ => rfl) v) (fun k e hk => by subst hk; exact hT.apart hbp (by decide) e)
theorem WheelAt.cellp (h : WheelAt w base X p r0 r1 r2 M) (i : Nat) (hi : i < 7) (v : Value) : (w.setCell ⟨p, i, none⟩ v).cell? ⟨p, i, none⟩ = some v := by
  obtain ⟨c, hb, hz⟩ := h.bp
  refine World.cell?_setCell_same' _ _ _ ?_
  rw [hb.cell]
  simp [hz, hi]
theorem WheelAt.setNow (h : WheelAt w base X p r0 r1 r2 M) (x : Nat) : WheelAt (w.setCell ⟨p, 0, none⟩ (.int .u64 x)) base X p r0 r1 r2 { M with now := x } ∧ Only (fun k => base ≤ k ∧ ¬ X k) w (w.setCell ⟨p, 0, none⟩ (.int .u64 x)) :=
  h.setp 0 (.inl rfl) _ _ rfl ⟨h.cellp 0 (by decide) _, (World.cell?_setCell_other _ _ _ _ (by simp)).trans h.turn, (World.cell?_setCell_other _ _ _ _ (by simp)).trans h.cnt⟩
theorem WheelAt.setTurn (h : WheelAt w base X p r0 r1 r2 M) (x : Int) : WheelAt (w.setCell ⟨p, 1, none⟩ (.int .i64 x)) base X p r0 r1 r2 { M with turn := x } ∧ Only (fun k => base ≤ k ∧ ¬ X k) w (w.setCell ⟨p, 1, none⟩ (.int .i64 x)) :=
  h.setp 1 (.inr (.inl rfl)) _ _ rfl ⟨(World.cell?_setCell_other _ _ _ _ (by simp)).trans h.now, h.cellp 1 (by decide) _, (World.cell?_setCell_other _ _ _ _ (by simp)).trans h.cnt⟩
theorem WheelAt.setN (h : WheelAt w base X p r0 r1 r2 M) (x : Int) : WheelAt (w.setCell ⟨p, 6, none⟩ (.int .i64 x)) base X p r0 r1 r2 { M with n := x } ∧ Only (fun k => base ≤ k ∧ ¬ X k) w (w.setCell ⟨p, 6, none⟩ (.int .i64 x)) :=
  h.setp 6 (.inr (.inr rfl)) _ _ rfl ⟨(World.cell?_setCell_other _ _ _ _ (by simp)).trans h.now, (World.cell?_setCell_other _ _ _ _ (by simp)).trans h.turn, h.cellp 6 (by decide) _⟩
/-- a list is taken out: its block is the wheel's no more -/
theorem WheelAt.take {q : Nat} {V : Nat → Value} (h : WheelAt w base X p r0 r1 r2 M) (hV : Vals w base X p r0 r1 r2 M V) (hq : q < 449) :
    WheelAt (w.setCell (loc p r0 r1 r2 q) (.slice none 0 0)) base (fun b => X b ∨ (V q).ownBlock = some b) p r0 r1 r2 (M.upd q []) ∧ Tms (w.setCell (loc p r0 r1 r2 q) (.slice none 0 0)) base (V q) (M.L q) ∧ Only (fun k => base ≤ k ∧ ¬ X k) w (w.setCell (loc p r0 r1 r2 q) (.slice none 0 0)) := by
  obtain ⟨n0, n1, n2⟩ := h.nes
  obtain ⟨n01, n02, n12⟩ := h.ne
  have hs := h.store hV hq (Only.grownBy (Only.refl NoBlock w) |> fun hg => ⟨hg.os, hg.tape, hg.output, hg.size, fun k _ _ => rfl⟩) (Tms.nil w base) (fun b e => by simp [Value.ownBlock] at e)
  obtain ⟨cp, hbp, _⟩ := h.bp
  obtain ⟨c0, hb0, _⟩ := h.b0
  obtain ⟨c1, hb1, _⟩ := h.b1
  obtain ⟨c2, hb2, _⟩ := h.b2
  have hTq := (hV.at_ q hq).2
  have rowset : ∀ {u : Value} {m : List Tm}, Tms w base u m → Tms (w.setCell (loc p r0 r1 r2 q) (.slice none 0 0)) base u m := fun {u m} hu =>
    Tms.keeps (S := fun k => k = (loc p r0 r1 r2 q).block) hu ((Only.refl (fun k => k = (loc p r0 r1 r2 q).block) w).setCell (fun _ => rfl) _) (fun k e hk => by
      rcases loc_block (p := p) (r0 := r0) (r1 := r1) (r2 := r2) q with e1 | e1 | e1 | e1 <;> rw [e1] at hk <;> subst hk
      · exact hu.apart hbp (by decide) e
      · exact hu.apart hb0 (by decide) e
      · exact hu.apart hb1 (by decide) e
      · exact hu.apart hb2 (by decide) e)
  refine ⟨{ hs.1 with px := ?_, xlt := ?_, ex := ⟨fun i => if i = q then .slice none 0 0 else V i, ?_, ?_, ?_⟩ }, rowset hTq, hs.2⟩
  · refine ⟨fun e => ?_, fun e => ?_, fun e => ?_, fun e => ?_⟩ <;> rcases e with e | e
    · exact h.px.1 e
    · exact hTq.apart hbp (by decide) e
    · exact h.px.2.1 e
    · exact hTq.apart hb0 (by decide) e
    · exact h.px.2.2.1 e
    · exact hTq.apart hb1 (by decide) e
    · exact h.px.2.2.2 e
    · exact hTq.apart hb2 (by decide) e
  · intro b hb
    rcases hb with hb | hb
    · simpa using h.xlt b hb
    · simpa using (hTq.lt b hb).2
  · intro i hi
    by_cases e : i = q
    · subst e
      simp only [if_true, Wl.upd]
      exact ⟨World.cell?_setCell_same' _ _ _ (by rw [(hV.at_ i hi).1]; rfl), Tms.nil _ _⟩
    · simp only [if_neg e, Wl.upd]
      exact ⟨(World.cell?_setCell_other _ _ _ _ (loc_inj n0 n1 n2 n01 n02 n12 hq hi (fun e' => e e'.symm))).trans (hV.at_ i hi).1, rowset (hV.at_ i hi).2⟩
  · intro i j hi hj hij b
    by_cases e : i = q <;> by_cases e' : j = q
    · omega
    · simp [e, Value.ownBlock]
    · simp [e', Value.ownBlock]
    · simp only [if_neg e, if_neg e']
      exact hV.two i j hi hj hij b
  · intro i hi b
    by_cases e : i = q
    · simp [e, Value.ownBlock]
    · simp only [if_neg e]
      intro hb hx
      rcases hx with hx | hx
      · exact hV.out i hi b hb hx
      · exact hV.two q i hq hi (fun e' => e e'.symm) b hx hb
end
/-- a row loses the one at place i -/
theorem run_append_cut (w : World) (ty : TypeId) (base g cap : Nat) (l : List Tm) (i : Nat) (hi : i < l.length) (hT : Tms w base (.slice (some ⟨g, 0, none⟩) l.length cap) l) (hbase : base ≤ w.heap.size) :
    ∃ v' w', (Builtin.append_ #[47, 47] ty #[.slice (some ⟨g, 0, none⟩) i i, sliced (some ⟨g, 0, none⟩) (i + 1) l.length cap 3]).run Try.prog w = .ok v' w' ∧ Tms w' base v' (l.eraseIdx i) ∧ Only NoBlock w w' ∧ (∀ b, v'.ownBlock = some b → b = g ∨ w.heap.size ≤ b) := by
  obtain ⟨ti, hti, hz, hsz, hby⟩ := info_parts info_tm
  rcases hT.lie with ⟨h1, _⟩ | ⟨g', cs, h1, hb, hg, hlc, hcm, hz3, htk⟩
  · cases h1
  · cases h1
    have hml := hT.2.2
    have hel : (l.eraseIdx i).length = l.length - 1 := by rw [List.length_eraseIdx, if_pos hi]
    have hwf : ∀ x ∈ l.eraseIdx i, x.Wf := fun x hx => hT.2.1 x (List.mem_of_mem_eraseIdx hx)
    have hcell : ∀ j u, (l.flatMap Tm.cells)[j]? = some u → w.cell? ⟨g, j, none⟩ = some u := by
      intro j u hj
      rw [cell_of_row w g j cs 53 (0, 0) hg, ← hj, ← htk, List.getElem?_take, if_pos]
      · simp
      · rw [← flat_length]; exact (List.getElem?_eq_some_iff.1 hj).1
    have hsplit : l.flatMap Tm.cells = (l.take i).flatMap Tm.cells ++ (l.drop i).flatMap Tm.cells := by rw [← List.flatMap_append, List.take_append_drop]
    have hsplit2 : l.flatMap Tm.cells = (l.take (i + 1)).flatMap Tm.cells ++ (l.drop (i + 1)).flatMap Tm.cells := by rw [← List.flatMap_append, List.take_append_drop]
    have herase : l.eraseIdx i = l.take i ++ l.drop (i + 1) := List.eraseIdx_eq_take_drop_succ l i
    have hl1 : ((l.take i).flatMap Tm.cells).length = i * 3 := by rw [flat_length, List.length_take, Nat.min_eq_left (by omega)]
    have hl2 : ((l.take (i + 1)).flatMap Tm.cells).length = (i + 1) * 3 := by rw [flat_length, List.length_take, Nat.min_eq_left (by omega)]
    have holds : ∀ j u, ((l.take i).flatMap Tm.cells)[j]? = some u → w.cell? ((⟨g, 0, none⟩ : Addr).add j) = some u := by
      intro j u hj
      rw [Addr.add_lit, Nat.zero_add]
      refine hcell j u ?_
      rw [hsplit, List.getElem?_append_left (List.getElem?_eq_some_iff.1 hj).1, hj]
    by_cases hlast : i + 1 = l.length
    · have hd : l.drop (i + 1) = [] := List.drop_eq_nil_of_le (by omega)
      obtain ⟨ax, hax⟩ : ∃ ax : Addr, sliced (some ⟨g, 0, none⟩) (i + 1) l.length cap 3 = .slice (some ax) 0 (cap - (i + 1)) := by
        unfold sliced
        rw [← hlast, Nat.sub_self]
        split
        · exact ⟨_, rfl⟩
        · exact ⟨_, rfl⟩
      have hr := run_append_room_cells (P := Try.prog) w 47 ty 53 ti u_tms hti g 0 i i ax 0 (cap - (i + 1)) [] (by simp) (by simp) (by simp) (by omega) (by simp) (by simp)
      rw [hax]
      refine ⟨_, _, hr, ⟨.inr ⟨g, cs, ?_, hb, ?_, ?_, ?_⟩, hwf, by omega⟩, Only.refl _ _, fun b e => .inl (by simpa [Value.ownBlock] using e.symm)⟩
      · rw [hel]; congr 1 <;> omega
      · exact hg
      · omega
      · rw [herase, hd, List.append_nil, List.length_take, Nat.min_eq_left (by omega)]
        have : (l.take i).flatMap Tm.cells = (l.flatMap Tm.cells).take (i * 3) := by rw [hsplit, ← hl1, List.take_left]
        rw [this, ← htk, List.take_take, Nat.min_eq_left (by omega)]
    · have hax : sliced (some ⟨g, 0, none⟩) (i + 1) l.length cap 3 = .slice (some ⟨g, (i + 1) * 3, none⟩) (l.length - (i + 1)) (cap - (i + 1)) := by
        unfold sliced
        rw [if_neg (by omega)]
        simp [Addr.add_lit]
      rw [hax]
      have hln : ((l.drop (i + 1)).flatMap Tm.cells).length = (l.length - (i + 1)) * 3 := by rw [flat_length, List.length_drop]
      obtain ⟨v', w', hr, hown, hgr⟩ := run_append_arg_grows (P := Try.prog) w 47 ty 53 ti _ 3 24 u_tms hti hz hsz hby rfl (by decide) ⟨g, 0, none⟩ i i ((l.take i).flatMap Tm.cells) hl1 holds ⟨g, (i + 1) * 3, none⟩ (l.length - (i + 1)) (cap - (i + 1)) ((l.drop (i + 1)).flatMap Tm.cells) hln (by
        intro j u hj
        rw [Addr.add_lit]
        refine hcell _ u ?_
        rw [hsplit2, List.getElem?_append_right (by omega), hl2, Nat.add_sub_cancel_left, hj]) (by omega) (by unfold maxLen; omega) (by omega)
      have hn1 : i + (l.length - (i + 1)) = (l.eraseIdx i).length := by omega
      have hfl : (l.take i).flatMap Tm.cells ++ (l.drop (i + 1)).flatMap Tm.cells = (l.eraseIdx i).flatMap Tm.cells := by rw [herase, List.flatMap_append]
      rw [hn1, hfl] at hown
      refine ⟨v', w', hr, ⟨.inl ⟨hown.1, ?_⟩, hwf, by omega⟩, ⟨hgr.os, hgr.tape, hgr.output, hgr.size, fun k hk _ => hgr.block k hk (by simp)⟩, fun b e => .inr (hown.lt b e).1⟩
      rcases hown.2 with h | ⟨g', c', cur, e1, e2, r⟩
      · exact .inl h
      · exact .inr ⟨g', c', cur, e1, by omega, r⟩
/-- .. as one step of a region that draws -/
theorem step_append_cut {ops : Array Oper} {o : Oper} {a : Act} {Q : Exit → Act → World → Prop} {K : Act → World → Prop} {E : Prop} (w : World) (hgd : o.guard = none) (s x : Operand) (ho : o.op = .call { callee := .builtin .append, args := #[s, x], argTypes := #[47, 47] })
    (base g cap : Nat) (l : List Tm) (i : Nat) (hi : i < l.length) (hT : Tms w base (.slice (some ⟨g, 0, none⟩) l.length cap) l) (hbase : base ≤ w.heap.size)
    (hs : a.eval s = .slice (some ⟨g, 0, none⟩) i i) (hx : a.eval x = sliced (some ⟨g, 0, none⟩) (i + 1) l.length cap 3)
    (h : ∀ v' w', Tms w' base v' (l.eraseIdx i) → Only NoBlock w w' → (∀ b, v'.ownBlock = some b → b = g ∨ w.heap.size ≤ b) → K (a.put o.dst v') w') : if Region.wanted o (yielded ops a.tmps) = true then Oper.wp Try.prog o a w K Q else E := by
  have hw : Region.wanted o (yielded ops a.tmps) = true := by simp [Region.wanted, hgd]
  rw [if_pos hw]
  unfold Oper.wp execOp
  simp only [ho, resolve, invoke, builtin, Sem.run_bind, Sem.run_pure, Result.andThen_ok, List.map_toArray, List.map_cons, List.map_nil, hs, hx]
  obtain ⟨v', w', hr, h2, h3, h5⟩ := run_append_cut w o.type base g cap l i hi hT hbase
  rw [hr]
  exact h v' w' h2 h3 h5
end Wh
end Go.Proofs.Ytklpdkojffaiiaa
