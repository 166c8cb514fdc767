/- machine.Machine's Apply: a committed command, and its reply. -/
import Derived.Test.YtogeeeigfhmpmaaMout
import Derived.Test.YtogeeeigfhmpmaaTabR
import Derived.Test.YtogeeeigfhmpmaaTabE
import Derived.Deep.CutBlock
namespace Go.Proofs.Ytogeeeigfhmpmaa
open Go.RowKit
set_option maxRecDepth 100000

/-- block p is a machine: its table tb (row v), its map mb -/
structure MachAt (w : World) (p tb mb : Nat) (v : Value) (m : Mc.Mach) : Prop where
  blk : Blk w p #[.pointer (some ⟨tb, 0, none⟩), .map (some mb)] 72
  tab : TabAt w tb v m.tab
  sgs : SgsAt w mb m.sagas m.ids.length
/-- what a call may write -/
def MachS (tb mb : Nat) (v : Value) : Nat → Prop := fun k => k = tb ∨ k = mb ∨ v.ownBlock = some k
structure MachTo (p tb mb : Nat) (v : Value) (m' : Mc.Mach) (w w' : World) (v' : Value) : Prop where
  at_ : MachAt w' p tb mb v' m'
  row : ∀ k, v'.ownBlock = some k → v.ownBlock = some k ∨ w.heap.size ≤ k
  only : Only (MachS tb mb v) w w'
section
variable {w w' : World} {p tb mb : Nat} {v v' : Value} {m : Mc.Mach}
theorem MachAt.keeps {S : Nat → Prop} (h : MachAt w p tb mb v m) (ho : Only S w w') (h1 : ¬ S p) (h2 : ¬ S tb) (h3 : ¬ S mb) (h4 : ∀ k, v.ownBlock = some k → ¬ S k) (h5 : ∀ k, S k → ¬ OfT w k 38) : MachAt w' p tb mb v m :=
  ⟨h.blk.keeps ho h1, h.tab.keeps ho h2 h4, h.sgs.keeps ho h3 h5⟩
theorem MachAt.keepsN (h : MachAt w p tb mb v m) (ho : Only NoBlock w w') : MachAt w' p tb mb v m := ⟨h.blk.keeps ho (fun h => h), h.tab.keepsN ho, h.sgs.keepsN ho⟩
theorem MachAt.nS (h : MachAt w p tb mb v m) : ∀ k, MachS tb mb v k → ¬ OfT w k 38 := by
  intro k hk ht
  rcases hk with rfl | rfl | hk
  · exact ht.ne_blk h.tab.blk (by decide) rfl
  · exact h.sgs.not_ofT _ ht
  · exact (h.tab.row.ofT hk).ne ht (by decide) rfl
theorem MachAt.ptb (h : MachAt w p tb mb v m) : p ≠ tb := h.blk.ofT.ne_blk h.tab.blk (by decide)
theorem MachAt.pmb (h : MachAt w p tb mb v m) : p ≠ mb := h.sgs.ofT_ne h.blk.ofT
theorem MachAt.tmb (h : MachAt w p tb mb v m) : tb ≠ mb := h.sgs.ofT_ne h.tab.blk.ofT
theorem MachAt.vp (h : MachAt w p tb mb v m) : ∀ k, v.ownBlock = some k → k ≠ p ∧ k ≠ tb ∧ k ≠ mb := fun k hk => ⟨(h.tab.row.ofT hk).ne_blk h.blk (by decide), h.tab.apart k hk, h.sgs.ofT_ne (h.tab.row.ofT hk)⟩
/-- the table has been turned -/
theorem MachAt.tabTo {t' : Mc.Tab} (h : MachAt w p tb mb v m) (ht : TabTo tb v t' w w' v') : MachAt w' p tb mb v' ⟨t', m.ids, m.sagas⟩ ∧ Only (MachS tb mb v) w w' := by
  have hS : ∀ k, (k = tb ∨ v.ownBlock = some k) → ¬ OfT w k 38 := fun k hk => h.nS k (hk.elim .inl (fun e => .inr (.inr e)))
  exact ⟨⟨h.blk.keeps ht.only (fun e => e.elim h.ptb (fun e => (h.vp p e).1 rfl)), ht.tab, h.sgs.keeps ht.only (fun e => e.elim (fun e => h.tmb e.symm) (fun e => (h.vp mb e).2.2 rfl)) hS⟩, ht.only.mono (fun k hk => hk.elim .inl (fun e => .inr (.inr e)))⟩
/-- the map has been turned -/
theorem MachAt.mapTo {ids : List Nat} {f : Mc.Sgs} (h : MachAt w p tb mb v m) (hs : SgsAt w' mb f ids.length) (ho : Only (fun k => k = mb) w w') : MachAt w' p tb mb v ⟨m.tab, ids, f⟩ ∧ Only (MachS tb mb v) w w' :=
  ⟨⟨h.blk.keeps ho h.pmb, h.tab.keeps ho h.tmb (fun k hk => (h.vp k hk).2.2), hs⟩, ho.mono (fun _ hk => .inr (.inl hk))⟩
end
def MachEnd (p tb mb : Nat) (v : Value) (m' : Mc.Mach) (y : Mc.Rep) (w : World) (e : Ending) (w' : World) : Prop := e = .returned (repV y) ∧ ∃ v', MachTo p tb mb v m' w w' v'
/-- two calls on one machine -/
theorem Only.andMach {tb mb : Nat} {v v' : Value} {a b c : World} (h : Only (MachS tb mb v) a b) (k : Only (MachS tb mb v') b c) (hr : ∀ j, v'.ownBlock = some j → v.ownBlock = some j ∨ a.heap.size ≤ j) : Only (MachS tb mb v) a c :=
  h.andThen k (fun i hi hk => by
    rcases hk with rfl | rfl | hk
    · exact .inl rfl
    · exact .inr (.inl rfl)
    · rcases hr i hk with h1 | h1
      · exact .inr (.inr h1)
      · omega)
section
variable {w W W' : World} {p tb mb : Nat} {v v1 v2 : Value} {m : Mc.Mach}
theorem MachTo.refl (h : MachAt w p tb mb v m) : MachTo p tb mb v m w w v := ⟨h, fun _ hk => .inl hk, Only.refl _ _⟩
theorem MachTo.trans {v0 : Value} {m' m'' : Mc.Mach} (h : MachTo p tb mb v0 m' w W v1) (k : MachTo p tb mb v1 m'' W W' v2) : MachTo p tb mb v0 m'' w W' v2 := by
  refine ⟨k.at_, fun j hj => ?_, h.only.andMach k.only h.row⟩
  rcases k.row j hj with h3 | h3
  · exact h.row j h3
  · exact .inr (Nat.le_trans h.only.size h3)
theorem MachTo.fresh {w0 : World} {v0 : Value} {m' : Mc.Mach} (ho : Only NoBlock w0 w) (h : MachTo p tb mb v0 m' w W v1) (h1 : w0.heap.size ≤ tb) (h2 : w0.heap.size ≤ mb) (h3 : ∀ k, v0.ownBlock = some k → w0.heap.size ≤ k) : Only NoBlock w0 W :=
  ho.andThen h.only (fun i hi hk => by
    rcases hk with rfl | rfl | hk
    · omega
    · omega
    · have := h3 i hk; omega)
theorem MachTo.stepN (h : MachTo p tb mb v m w W v1) (ho : Only NoBlock W W') : MachTo p tb mb v m w W' v1 := ⟨h.at_.keepsN ho, h.row, h.only.trans ho.of_no⟩
theorem MachTo.stepT {v0 : Value} {m' : Mc.Mach} {t' : Mc.Tab} (h : MachTo p tb mb v0 m' w W v1) (ht : TabTo tb v1 t' W W' v2) : MachTo p tb mb v0 ⟨t', m'.ids, m'.sagas⟩ w W' v2 := by
  obtain ⟨h1, h2⟩ := h.at_.tabTo ht
  refine ⟨h1, fun k hk => ?_, h.only.andMach h2 h.row⟩
  rcases ht.row k hk with h3 | h3
  · exact h.row k h3
  · exact .inr (Nat.le_trans h.only.size h3)
theorem MachTo.stepM {v0 : Value} {m' : Mc.Mach} {ids : List Nat} {f : Mc.Sgs} (h : MachTo p tb mb v0 m' w W v1) (hs : SgsAt W' mb f ids.length) (ho : Only (fun k => k = mb) W W') : MachTo p tb mb v0 ⟨m'.tab, ids, f⟩ w W' v1 := by
  obtain ⟨h1, h2⟩ := h.at_.mapTo hs ho
  exact ⟨h1, h.row, h.only.andMach h2 h.row⟩
theorem MachTo.stepB {v0 : Value} {m' : Mc.Mach} {G : Nat} {cs : Array Value} {T : TypeId} (h : MachTo p tb mb v0 m' w W v1) (hG0 : w.heap.size ≤ G) (hG : Blk W G cs T) (h1 : T ≠ 72) (h2 : T ≠ 112) (h3 : T ≠ 58) (h4 : T ≠ 38) (ho : Only (fun k => k = G) W W') : MachTo p tb mb v0 m' w W' v1 := by
  refine ⟨h.at_.keeps ho (fun e => ?_) (fun e => ?_) (fun e => ?_) (fun k hk e => ?_) (fun k hk ht => ?_), h.row, h.only.andThen ho (fun i hi e => by omega)⟩
  · exact hG.ofT.ne_blk h.at_.blk (fun e => h1 e.symm) e.symm
  · exact hG.ofT.ne_blk h.at_.tab.blk (fun e => h2 e.symm) e.symm
  · exact h.at_.sgs.ofT_ne hG.ofT e.symm
  · exact (h.at_.tab.row.ofT hk).ne_blk hG h3 e
  · subst hk; exact ht.ne_blk hG h4 rfl
/-- a block of another type stays -/
theorem MachAt.keepBlk {G : Nat} {cs : Array Value} {T : TypeId} (h : MachAt W p tb mb v m) (hG : Blk W G cs T) (h2 : T ≠ 112) (h3 : T ≠ 58) (ho : Only (MachS tb mb v) W W') : Blk W' G cs T := by
  refine hG.keeps ho (fun e => ?_)
  rcases e with e | e | e
  · exact hG.ofT.ne_blk h.tab.blk (fun e => h2 e.symm) e
  · exact h.sgs.ofT_ne hG.ofT e
  · exact (h.tab.row.ofT e).ne_blk hG h3 rfl
theorem TabTo.mach {t' : Mc.Tab} (ht : TabTo tb v t' W W' v1) : Only (MachS tb mb v) W W' := ht.only.mono (fun _k hk => hk.elim .inl (fun e => .inr (.inr e)))
theorem Only.mapMach (ho : Only (fun k => k = mb) W W') : Only (MachS tb mb v) W W' := ho.mono (fun _ hk => .inr (.inl hk))
end
theorem outcome_tab (m : Mc.Mach) (c : Pk.Cmd) : (m.outcome c).1.tab = m.tab := by
  unfold Mc.Mach.outcome
  cases m.sagas c.saga with
  | none => rfl
  | some s =>
    dsimp only
    split <;> rfl
theorem do_tab (m : Mc.Mach) (c : Pk.Cmd) : (m.do_ c).1.tab = m.tab := by
  unfold Mc.Mach.do_
  split
  · cases m.sagas c.saga with
    | some s => rfl
    | none => dsimp only; split <;> rfl
  · split <;> cases m.sagas c.saga <;> rfl
theorem start_fresh {t : Mc.Tab} {id seq : Nat} (h : (t.start id seq).2.2 = true) : ∃ i, Mc.find (t.start id seq).1.rows id = some i ∧ ((t.start id seq).1.rows.getD i ⟨0, 0, 0, ⟨0, 0, 0⟩⟩).seq + 1 = seq := by
  unfold Mc.Tab.start at h ⊢
  cases hf : Mc.find t.rows id with
  | none => rw [hf] at h; simp at h
  | some i =>
    rw [hf] at h
    simp only at h ⊢
    obtain ⟨hi, hid⟩ := Mc.find_lt hf
    have hfu : Mc.find (Mc.used t.rows i t.now) id = some i := by
      unfold Mc.used
      unfold Mc.find at hf ⊢
      rw [List.findIdx?_eq_some_iff_getElem] at hf ⊢
      obtain ⟨hi', h1, h2⟩ := hf
      refine ⟨by rw [List.length_modify]; exact hi', ?_, fun j hj => ?_⟩
      · rw [List.getElem_modify]; simpa using h1
      · rw [List.getElem_modify, if_neg (by omega)]; exact h2 j hj
    have hsq : ((Mc.used t.rows i t.now).getD i ⟨0, 0, 0, ⟨0, 0, 0⟩⟩).seq = (t.rows.getD i ⟨0, 0, 0, ⟨0, 0, 0⟩⟩).seq := by
      unfold Mc.used
      rw [modify_set hi, List.getD_eq_getElem?_getD, List.getElem?_eq_getElem (by rw [List.length_set]; exact hi), List.getElem_set_self, List.getD_eq_getElem?_getD, List.getElem?_eq_getElem hi]
      rfl
    split at h
    · simp at h
    · rename_i h1
      split at h
      · simp at h
      · rename_i h2
        rw [if_neg h1, if_neg h2]
        refine ⟨i, hfu, ?_⟩
        show ((Mc.used t.rows i t.now).getD i ⟨0, 0, 0, ⟨0, 0, 0⟩⟩).seq + 1 = seq
        rw [hsq]
        by_cases e : seq = (t.rows.getD i ⟨0, 0, 0, ⟨0, 0, 0⟩⟩).seq + 1
        · exact e.symm
        · exact absurd (.inl e) h2

set_option maxHeartbeats 8000000 in
theorem apply_at (w : World) (p tb mb : Nat) (v : Value) (m : Mc.Mach) (hM : MachAt w p tb mb v m) (hk : m.Ok) (s : ByteArray) (hs : s.size ≤ 1000000000000) :
    Calls Try.prog 10 #[.pointer (some ⟨p, 0, none⟩), .string s] w (MachEnd p tb mb v (m.apply (nums s)).1 (m.apply (nums s)).2 w) := by
  obtain ⟨fs, hfs⟩ := u_rep
  have HFS := Lib.hid hfs
  clear hfs
  go_enter Try.func10, Try.ntmps10
  go_upto_region 3 with fail
  have hG := Blk.made w #[.int .i64 0, .int .u64 0, .int .u64 0] 34
  have hO := (Only.refl NoBlock w).alloc (Obj.cells #[.int .i64 0, .int .u64 0, .int .u64 0] 34)
  have hM1 := (MachTo.refl hM).stepN hO
  generalize w.alloc (Obj.cells #[.int .i64 0, .int .u64 0, .int .u64 0] 34) = w1 at hG hO hM1 ⊢
  have hG0 : w.heap.size ≤ w.heap.size := Nat.le_refl _
  generalize hGe : w.heap.size = G at hG ⊢
  have hG0 : w.heap.size ≤ G := by omega
  clear hGe
  go_wp2_with fail
  refine (decode_at w1 s hs).mono ?_
  rintro e w2 ⟨hO2, hend⟩
  have hG2 := hG.keeps hO2 (fun h => h)
  have hM2 := hM1.stepN hO2
  clear hG hM1 hO hO2
  rcases hend.symm with ⟨hd, rfl⟩ | ⟨c, ao, cap, hd, hsm, rfl, hrow⟩
  · have HA : RowKit.Hid (m.apply (nums s) = (m, ⟨2, 0, 0⟩)) := Lib.hid (by unfold Mc.Mach.apply; rw [hd])
    clear hd
    unfold cmd0
    have hC := (Only.refl NoBlock w2).alloc (Obj.cells #[.int .i64 0, .int .u64 0, .int .u64 0, .int .u64 0, .slice none 0 0, .int .i64 0, .bool false, .int .i64 0, .bool false, .int .u64 0] 31)
    go_upto_region 4 with fail
    have hM3 := hM2.stepN hC
    have hG3 := hG2.keeps hC (fun h => h)
    generalize w2.alloc (Obj.cells #[.int .i64 0, .int .u64 0, .int .u64 0, .int .u64 0, .slice none 0 0, .int .i64 0, .bool false, .int .i64 0, .bool false, .int .u64 0] 31) = w3 at hM3 hG3 ⊢
    clear hC hM2 hG2
    have g0 := hG3.cell 0
    have gf0 := hG3.free 0
    have g1 := hG3.cell 1
    have gf1 := hG3.free 1
    have g2 := hG3.cell 2
    have gf2 := hG3.free 2
    simp only [List.getElem?_toArray, List.getElem?_cons_succ, List.getElem?_cons_zero] at g0 g1 g2
    go_wp2_with fail
    have hV := rep_ret hG3 (.int .i64 2) (.int .u64 0) (.int .u64 0) rfl
    have hW := sets_only (S := fun k => k = G) (g := G) (Only.refl _ w3) (fun _ => rfl) [.int .i64 2, .int .u64 0, .int .u64 0] 0
    simp only [sets] at hW
    refine bodyPost_ret (results_cell_row (P := Try.prog) rfl _ _ G _ _ _ _ rfl hV HFS.out rfl size_rep) rfl ?_
    refine ⟨by rw [HA.out]; rfl, v, ?_⟩
    rw [HA.out]
    exact hM3.stepB hG0 hG3 (by decide) (by decide) (by decide) (by decide) hW
  have hmay := (Pk.dec_canon (nums_byte s) hd).2
  have hwf := Pk.dec_wf (nums_byte s) hd
  have hA0 : m.apply (nums s) = (if c.kind = 1 then (⟨(m.tab.clock c.now).register.1, m.ids, m.sagas⟩, ⟨(m.tab.clock c.now).register.2.2, (m.tab.clock c.now).register.2.1, 0⟩)
      else if c.kind = 4 then (⟨m.tab.clock c.now, m.ids, m.sagas⟩ : Mc.Mach).outcome c
      else if ((m.tab.clock c.now).start c.session c.seq).2.2 = false then (⟨((m.tab.clock c.now).start c.session c.seq).1, m.ids, m.sagas⟩, ((m.tab.clock c.now).start c.session c.seq).2.1)
      else (⟨((⟨((m.tab.clock c.now).start c.session c.seq).1, m.ids, m.sagas⟩ : Mc.Mach).do_ c).1.tab.end_ c.session c.seq ((⟨((m.tab.clock c.now).start c.session c.seq).1, m.ids, m.sagas⟩ : Mc.Mach).do_ c).2, ((⟨((m.tab.clock c.now).start c.session c.seq).1, m.ids, m.sagas⟩ : Mc.Mach).do_ c).1.ids, ((⟨((m.tab.clock c.now).start c.session c.seq).1, m.ids, m.sagas⟩ : Mc.Mach).do_ c).1.sagas⟩, ((⟨((m.tab.clock c.now).start c.session c.seq).1, m.ids, m.sagas⟩ : Mc.Mach).do_ c).2)) := by
    unfold Mc.Mach.apply
    rw [hd]
  have HA := Lib.hid hA0
  have HM := Lib.hid hmay
  have HW := Lib.hid hwf
  have hCk := hk.tab.clock hwf.now
  have hk1 : (⟨m.tab.clock c.now, m.ids, m.sagas⟩ : Mc.Mach).Ok := hk.tabbed hCk
  have hnow := hwf.now
  have hses := hwf.session
  have hsq := hwf.seq
  obtain ⟨k, a, b, sg, l, st, bk, tr, ok, now⟩ := c
  simp only at hrow hsm hnow hses hsq hCk hk1
  unfold cmdV
  clear hA0 hmay hwf hd
  go_upto_region 4 with fail
  have hC := (Only.refl NoBlock w2).alloc (Obj.cells #[.int .i64 (k : Int), .int .u64 a, .int .u64 b, .int .u64 sg, .slice ao l.length cap, .int .i64 st, .bool bk, .int .i64 tr, .bool ok, .int .u64 now] 31)
  have hB := Blk.made w2 #[.int .i64 (k : Int), .int .u64 a, .int .u64 b, .int .u64 sg, .slice ao l.length cap, .int .i64 st, .bool bk, .int .i64 tr, .bool ok, .int .u64 now] 31
  have hM3 := hM2.stepN hC
  have hG3 := hG2.keeps hC (fun h => h)
  have hr3 := hrow.keepsN hC
  have hC0 : w.heap.size ≤ w2.heap.size := hM2.only.size
  generalize w2.alloc (Obj.cells #[.int .i64 (k : Int), .int .u64 a, .int .u64 b, .int .u64 sg, .slice ao l.length cap, .int .i64 st, .bool bk, .int .i64 tr, .bool ok, .int .u64 now] 31) = w3 at hM3 hG3 hB hr3 ⊢
  generalize w2.heap.size = C at hB hC0 ⊢
  clear hC hM2 hG2 hrow
  have c9 := hB.cell 9
  have p0 := hM3.at_.blk.cell 0
  simp only [List.getElem?_toArray, List.getElem?_cons_succ, List.getElem?_cons_zero] at c9 p0
  go_upto_region 6 with fail
  refine wp_region_tail 6 (by kernel_rfl) (by kernel_rfl) ?_
  simp only [List.take_succ_cons, List.take_zero, List.drop_succ_cons, List.drop_zero]
  repeat still_step
  try refine wpStill_nil ?_
  have hD := (Only.refl NoBlock w3).drew
  have hM3d := hM3.stepN hD
  have hBd := Blk.drew hB
  have hGd := Blk.drew hG3
  have hrd := hr3.keepsN hD
  go_wp2_with fail
  refine (clock_at w3.drew tb v m.tab hM3d.at_.tab hk.tab now hnow).mono ?_
  rintro e w4 ⟨rfl, v1, hT⟩
  have hM4 := hM3d.stepT hT
  have hB4 := hM3d.at_.keepBlk hBd (by decide) (by decide) (hT.mach (mb := mb))
  have hG4 := hM3d.at_.keepBlk hGd (by decide) (by decide) (hT.mach (mb := mb))
  have hr4 := hrd.keepsT (hT.mach (mb := mb)) hM3d.at_.nS
  clear hD hM3d hBd hGd hrd hM3 hB hG3 hr3 c9 p0 hT
  have c0 := hB4.cell 0
  have c1 := hB4.cell 1
  have c2 := hB4.cell 2
  have c3 := hB4.cell 3
  have c4 := hB4.cell 4
  have c5 := hB4.cell 5
  have c6 := hB4.cell 6
  have c7 := hB4.cell 7
  have c8 := hB4.cell 8
  have c9 := hB4.cell 9
  simp only [List.getElem?_toArray, List.getElem?_cons_succ, List.getElem?_cons_zero] at c0 c1 c2 c3 c4 c5 c6 c7 c8 c9
  have p0 := hM4.at_.blk.cell 0
  simp only [List.getElem?_toArray, List.getElem?_cons_zero] at p0
  by_cases k1 : k = 1
  · subst k1
    have HA1 := Lib.hid (HA.out.trans (if_pos rfl))
    go_wp2_with fail
    refine (register_at w4 tb v1 _ hM4.at_.tab hCk).mono ?_
    rintro e w5 ⟨rfl, v2, hT5⟩
    have hM5 := hM4.stepT hT5
    have hG5 := hM4.at_.keepBlk hG4 (by decide) (by decide) (hT5.mach (mb := mb))
    have HA2 : RowKit.Hid (m.apply (nums s) = (⟨(m.tab.clock now).register.1, m.ids, m.sagas⟩, ⟨(m.tab.clock now).register.2.2, (m.tab.clock now).register.2.1, 0⟩)) := HA1
    clear HA1 HA hM4 hG4 hB4 hr4 hT5 p0
    clear c0 c1 c2 c3 c4 c5 c6 c7 c8 c9
    generalize (m.tab.clock now).register.2.2 = re at HA2 ⊢
    generalize (m.tab.clock now).register.2.1 = rn at HA2 ⊢
    have g0 := hG5.cell 0
    have gf0 := hG5.free 0
    have g1 := hG5.cell 1
    have gf1 := hG5.free 1
    have g2 := hG5.cell 2
    have gf2 := hG5.free 2
    simp only [List.getElem?_toArray, List.getElem?_cons_succ, List.getElem?_cons_zero] at g0 g1 g2
    go_wp2_with fail
    have hV := rep_ret hG5 (.int .i64 re) (.int .u64 (rn : Nat)) (.int .u64 0) rfl
    have hW := sets_only (S := fun k => k = G) (g := G) (Only.refl _ w5) (fun _ => rfl) [.int .i64 re, .int .u64 (rn : Nat), .int .u64 0] 0
    simp only [sets] at hW
    refine bodyPost_ret (results_cell_row (P := Try.prog) rfl _ _ G _ _ _ _ rfl hV HFS.out rfl size_rep) rfl ?_
    refine ⟨by rw [HA2.out]; rfl, v2, ?_⟩
    rw [HA2.out]
    exact hM5.stepB hG0 hG5 (by decide) (by decide) (by decide) (by decide) hW
  have d1 : ((k : Int) == 1) = false := by simp; omega
  by_cases k4 : k = 4
  · subst k4
    have HA1 := Lib.hid (HA.out.trans ((if_neg (by simp)).trans (if_pos rfl)))
    go_wp2_with fail
    refine (mout_at w4 p tb mb ⟨m.tab.clock now, m.ids, m.sagas⟩ hM4.at_.blk hM4.at_.sgs hk1 ⟨4, a, b, sg, l, st, bk, tr, ok, now⟩ ao cap hr4 HM.out HW.out rfl).mono ?_
    rintro e w5 ⟨rfl, hS5, hO5⟩
    have hout : ((⟨m.tab.clock now, m.ids, m.sagas⟩ : Mc.Mach).outcome ⟨4, a, b, sg, l, st, bk, tr, ok, now⟩).1.tab = m.tab.clock now := outcome_tab _ _
    have hM5 := hM4.stepM hS5 hO5
    have hG5 := hM4.at_.keepBlk hG4 (by decide) (by decide) (Only.mapMach hO5)
    obtain ⟨⟨xt, xi, xs⟩, ⟨ye, yn, yx⟩, hxy⟩ : ∃ x y, (⟨m.tab.clock now, m.ids, m.sagas⟩ : Mc.Mach).outcome ⟨4, a, b, sg, l, st, bk, tr, ok, now⟩ = (x, y) := ⟨_, _, rfl⟩
    rw [hxy] at hout hM5 ⊢
    have HA2 : RowKit.Hid (m.apply (nums s) = (⟨xt, xi, xs⟩, ⟨ye, yn, yx⟩)) := Lib.hid (HA1.out.trans hxy)
    simp only at hout hM5
    subst hout
    clear HA1 HA hM4 hG4 hB4 hr4 hS5 hO5 hxy p0
    clear c0 c1 c2 c3 c4 c5 c6 c7 c8 c9
    have g0 := hG5.cell 0
    have gf0 := hG5.free 0
    have g1 := hG5.cell 1
    have gf1 := hG5.free 1
    have g2 := hG5.cell 2
    have gf2 := hG5.free 2
    simp only [List.getElem?_toArray, List.getElem?_cons_succ, List.getElem?_cons_zero] at g0 g1 g2
    unfold repV
    go_wp2_with fail
    have hV := rep_ret hG5 (.int .i64 ye) (.int .u64 yn) (.int .u64 yx) rfl
    have hW := sets_only (S := fun k => k = G) (g := G) (Only.refl _ w5) (fun _ => rfl) [.int .i64 ye, .int .u64 yn, .int .u64 yx] 0
    simp only [sets] at hW
    refine bodyPost_ret (results_cell_row (P := Try.prog) rfl _ _ G _ _ _ _ rfl hV HFS.out rfl size_rep) rfl ?_
    refine ⟨by rw [HA2.out]; rfl, v1, ?_⟩
    rw [HA2.out]
    exact hM5.stepB hG0 hG5 (by decide) (by decide) (by decide) (by decide) hW
  have d4 : ((k : Int) == 4) = false := by simp; omega
  have HA1 := Lib.hid (HA.out.trans ((if_neg k1).trans (if_neg k4)))
  have HN1 := Lib.hid k1
  have HN4 := Lib.hid k4
  have hCs := hCk.start a b
  have hfr := start_fresh (t := m.tab.clock now) (id := a) (seq := b)
  obtain ⟨t1, ⟨ye, yn, yx⟩, fr, hst⟩ : ∃ t1 y fr, (m.tab.clock now).start a b = (t1, y, fr) := ⟨_, _, _, rfl⟩
  simp only [hst] at HA1
  rw [hst] at hCs hfr
  have HST := Lib.hid hst
  have HFR := Lib.hid hfr
  clear hst hfr HA k1 k4
  go_upto_region 13 with fail
  have hD1 : Only NoBlock w4 w4.drew := (Only.refl NoBlock w4).drew
  have hD2 : Only NoBlock w4 (w4.alloc (Obj.cells #[.int .i64 0, .int .u64 0, .int .u64 0] 34)).drew := ((Only.refl NoBlock w4).alloc _).drew
  have hMa := hM4.stepN hD1
  have hMb := hM4.stepN hD2
  have hBa := hB4.keeps hD1 (fun h => h)
  have hBb := hB4.keeps hD2 (fun h => h)
  have hGa := hG4.keeps hD1 (fun h => h)
  have hGb := hG4.keeps hD2 (fun h => h)
  have hra := hr4.keepsN hD1
  have hrb := hr4.keepsN hD2
  have hYb := Blk.drew (Blk.made w4 #[.int .i64 0, .int .u64 0, .int .u64 0] 34)
  have hY0 : w.heap.size ≤ w4.heap.size := hM4.only.size
  have hGY : ¬ G = w4.heap.size := by have := hG4.lt; omega
  have hCY : ¬ C = w4.heap.size := by have := hB4.lt; omega
  have b1 := hBb.cell 1
  have b2 := hBb.cell 2
  have q0 := hMb.at_.blk.cell 0
  simp only [List.getElem?_toArray, List.getElem?_cons_succ, List.getElem?_cons_zero] at b1 b2 q0
  go_cut [9, 10] (fun v9 v10 wx => ∃ (W : World) (Y : Nat) (v2 : Value), W = wx ∧ v9 = .pointer (some ⟨Y, 0, none⟩) ∧ v10 = .bool fr ∧ w.heap.size ≤ Y ∧ Y ≠ G ∧ Blk wx Y #[.int .i64 ye, .int .u64 yn, .int .u64 yx] 34 ∧ MachTo p tb mb v ⟨t1, m.ids, m.sagas⟩ w wx v2 ∧ Blk wx C #[.int .i64 (k : Int), .int .u64 a, .int .u64 b, .int .u64 sg, .slice ao l.length cap, .int .i64 st, .bool bk, .int .i64 tr, .bool ok, .int .u64 now] 31 ∧ Blk wx G #[.int .i64 0, .int .u64 0, .int .u64 0] 34 ∧ RowIn stpK 38 wx ao l)
  case first =>
    go_region_held3 (fun w' => w'.cell? ⟨p, 0, none⟩ = some (.pointer (some ⟨tb, 0, none⟩)) ∧ w'.cell? ⟨C, 1, none⟩ = some (.int .u64 a) ∧ w'.cell? ⟨C, 2, none⟩ = some (.int .u64 b))
      (first | with_reducible exact ⟨p0, c1, c2⟩ | with_reducible exact ⟨q0, b1, b2⟩ | with_reducible exact ⟨z0, z1, z2⟩ | go_keep)
      (first
        | (go_at_call 30; refine (start_at w4.drew tb v1 _ hMa.at_.tab hCk a b hsq).mono ?_; rintro e w5 ⟨rfl, v2, hT5⟩; rw [HST.out] at hT5; rw [HST.out]; unfold repV; have hM5 := hMa.stepT hT5; have hB5 := hMa.at_.keepBlk hBa (by decide) (by decide) (hT5.mach (mb := mb)); have hG5 := hMa.at_.keepBlk hGa (by decide) (by decide) (hT5.mach (mb := mb)); have hr5 := hra.keepsT (hT5.mach (mb := mb)) hMa.at_.nS; have hsz5 := hM5.only.size; have hsz6 := hT5.only.size; have b1 := hB5.cell 1; have b2 := hB5.cell 2; have q0 := hM5.at_.blk.cell 0; simp only [List.getElem?_toArray, List.getElem?_cons_succ, List.getElem?_cons_zero] at b1 b2 q0)
        | (go_at_call 30; refine (start_at _ tb v1 _ hMb.at_.tab hCk a b hsq).mono ?_; rintro e w5 ⟨rfl, v2, hT5⟩; rw [HST.out] at hT5; rw [HST.out]; unfold repV; have hM5 := hMb.stepT hT5; have hB5 := hMb.at_.keepBlk hBb (by decide) (by decide) (hT5.mach (mb := mb)); have hG5 := hMb.at_.keepBlk hGb (by decide) (by decide) (hT5.mach (mb := mb)); have hr5 := hrb.keepsT (hT5.mach (mb := mb)) hMb.at_.nS; have hsz5 := hM5.only.size; have hsz6 := hT5.only.size; have b1 := hB5.cell 1; have b2 := hB5.cell 2; have q0 := hM5.at_.blk.cell 0; simp only [List.getElem?_toArray, List.getElem?_cons_succ, List.getElem?_cons_zero] at b1 b2 q0; have hY5 := hMb.at_.keepBlk hYb (by decide) (by decide) (hT5.mach (mb := mb)); have y0 := hY5.cell 0; have y1 := hY5.cell 1; have y2 := hY5.cell 2; have yf0 := hY5.free 0; have yf1 := hY5.free 1; have yf2 := hY5.free 2; simp only [List.getElem?_toArray, List.getElem?_cons_succ, List.getElem?_cons_zero] at y0 y1 y2; have hZ : Only (fun k => k = w4.heap.size) w5 (((w5.setCell ⟨w4.heap.size, 0, none⟩ (.int .i64 ye)).setCell ⟨w4.heap.size, 1, none⟩ (.int .u64 yn)).setCell ⟨w4.heap.size, 2, none⟩ (.int .u64 yx)) := (((Only.refl (fun k => k = w4.heap.size) w5).setCell (p := ⟨w4.heap.size, 0, none⟩) (fun _ => rfl) _).setCell (p := ⟨w4.heap.size, 1, none⟩) (fun _ => rfl) _).setCell (p := ⟨w4.heap.size, 2, none⟩) (fun _ => rfl) _; have hM6 := hM5.stepB hY0 hY5 (by decide) (by decide) (by decide) (by decide) hZ; have hB6 := hB5.keeps hZ hCY; have hG6 := hG5.keeps hZ hGY; have hr6 := hr5.keepsT hZ (fun k hk => by subst hk; exact fun ht => ht.ne_blk hY5 (by decide) rfl); have hY6 := rep_ret hY5 (.int .i64 ye) (.int .u64 yn) (.int .u64 yx) rfl; have z1 := hB6.cell 1; have z2 := hB6.cell 2; have z0 := hM6.at_.blk.cell 0; simp only [List.getElem?_toArray, List.getElem?_cons_succ, List.getElem?_cons_zero] at z1 z2 z0))
    · have hA5 := (Only.refl NoBlock w5).alloc (Obj.cells #[.int .i64 ye, .int .u64 yn, .int .u64 yx] 34)
      have hGn : ¬ w5.heap.size = G := by have := hG5.lt; omega
      go_wp2_with fail
      go_meet
      exact ⟨_, w5.heap.size, v2, rfl, rfl, rfl, hsz5, hGn, Blk.made w5 _ _, hM5.stepN hA5, hB5.keeps hA5 (fun h => h), hG5.keeps hA5 (fun h => h), hr5.keepsN hA5⟩
    · go_wp2_with fail
      go_meet
      exact ⟨_, w4.heap.size, v2, rfl, rfl, rfl, hY0, fun e => hGY e.symm, hY6, hM6, hB6, hG6, hr6⟩
  case rest =>
    obtain ⟨wx, Y, v2, rfl, rfl, rfl, hY0, hYG, hY, hM5, hB5, hG5, hr5⟩ := hcut
    clear hMa hMb hBa hBb hGa hGb hra hrb hYb hD1 hD2 b1 b2 q0 p0 hM4 hB4 hG4 hr4 hGY hCY
    clear c0 c1 c2 c3 c4 c5 c6 c7 c8 c9
    have y0 := hY.cell 0
    have yf0 := hY.free 0
    have y1 := hY.cell 1
    have yf1 := hY.free 1
    have y2 := hY.cell 2
    have yf2 := hY.free 2
    simp only [List.getElem?_toArray, List.getElem?_cons_succ, List.getElem?_cons_zero] at y0 y1 y2
    cases fr with
    | false =>
      have HA2 := Lib.hid (HA1.out.trans (if_pos rfl))
      clear HA1
      have g0 := hG5.cell 0
      have gf0 := hG5.free 0
      have g1 := hG5.cell 1
      have gf1 := hG5.free 1
      have g2 := hG5.cell 2
      have gf2 := hG5.free 2
      simp only [List.getElem?_toArray, List.getElem?_cons_succ, List.getElem?_cons_zero] at g0 g1 g2
      go_wp2_with fail
      have hV := rep_ret hG5 (.int .i64 ye) (.int .u64 yn) (.int .u64 yx) rfl
      have hW := sets_only (S := fun k => k = G) (g := G) (Only.refl _ wx) (fun _ => rfl) [.int .i64 ye, .int .u64 yn, .int .u64 yx] 0
      simp only [sets] at hW
      refine bodyPost_ret (results_cell_row (P := Try.prog) rfl _ _ G _ _ _ _ rfl hV HFS.out rfl size_rep) rfl ?_
      refine ⟨by rw [HA2.out]; rfl, v2, ?_⟩
      rw [HA2.out]
      exact hM5.stepB hG0 hG5 (by decide) (by decide) (by decide) (by decide) hW
    | true =>
      obtain ⟨fi, hfi, hfs2⟩ := HFR.out rfl
      have hk2 : (⟨t1, m.ids, m.sagas⟩ : Mc.Mach).Ok := hk.tabbed hCs.1
      have HA2 := Lib.hid (HA1.out.trans (if_neg (by simp)))
      clear HA1
      have c0 := hB5.cell 0
      have c1 := hB5.cell 1
      have c2 := hB5.cell 2
      have c3 := hB5.cell 3
      have c4 := hB5.cell 4
      have c5 := hB5.cell 5
      have c6 := hB5.cell 6
      have c7 := hB5.cell 7
      have c8 := hB5.cell 8
      have c9 := hB5.cell 9
      simp only [List.getElem?_toArray, List.getElem?_cons_succ, List.getElem?_cons_zero] at c0 c1 c2 c3 c4 c5 c6 c7 c8 c9
      go_wp2_with fail
      refine (mdo_at wx p tb mb ⟨t1, m.ids, m.sagas⟩ hM5.at_.blk hM5.at_.sgs hk2 ⟨k, a, b, sg, l, st, bk, tr, ok, now⟩ ao cap hr5 HM.out HW.out HN1.out HN4.out).mono ?_
      rintro e w6 ⟨rfl, hS6, hO6⟩
      have hdt : ((⟨t1, m.ids, m.sagas⟩ : Mc.Mach).do_ ⟨k, a, b, sg, l, st, bk, tr, ok, now⟩).1.tab = t1 := do_tab _ _
      have hM6 := hM5.stepM hS6 hO6
      have hG6 := hM5.at_.keepBlk hG5 (by decide) (by decide) (Only.mapMach hO6)
      have hY6 := hM5.at_.keepBlk hY (by decide) (by decide) (Only.mapMach hO6)
      have hB6 := hM5.at_.keepBlk hB5 (by decide) (by decide) (Only.mapMach hO6)
      obtain ⟨⟨xt, xi, xs⟩, ⟨ze, zn, zx⟩, hxy⟩ : ∃ x y, (⟨t1, m.ids, m.sagas⟩ : Mc.Mach).do_ ⟨k, a, b, sg, l, st, bk, tr, ok, now⟩ = (x, y) := ⟨_, _, rfl⟩
      rw [hxy] at hdt hM6 ⊢
      simp only at hdt hM6
      subst hdt
      have HA3 : RowKit.Hid (m.apply (nums s) = (⟨xt.end_ a b ⟨ze, zn, zx⟩, xi, xs⟩, ⟨ze, zn, zx⟩)) := Lib.hid (HA2.out.trans (by simp only [hxy]))
      clear HA2 hM5 hG5 hB5 hr5 hY hS6 hO6 hxy
      clear c0 c1 c2 c3 c4 c5 c6 c7 c8 c9
      clear y0 y1 y2 yf0 yf1 yf2
      have y0 := hY6.cell 0
      have yf0 := hY6.free 0
      have y1 := hY6.cell 1
      have yf1 := hY6.free 1
      have y2 := hY6.cell 2
      have yf2 := hY6.free 2
      simp only [List.getElem?_toArray, List.getElem?_cons_succ, List.getElem?_cons_zero] at y0 y1 y2
      unfold repV
      go_upto_region 17 with fail
      have hZ : Only (fun k => k = Y) w6 (((w6.setCell ⟨Y, 0, none⟩ (.int .i64 ze)).setCell ⟨Y, 1, none⟩ (.int .u64 zn)).setCell ⟨Y, 2, none⟩ (.int .u64 zx)) := (((Only.refl (fun k => k = Y) w6).setCell (p := ⟨Y, 0, none⟩) (fun _ => rfl) _).setCell (p := ⟨Y, 1, none⟩) (fun _ => rfl) _).setCell (p := ⟨Y, 2, none⟩) (fun _ => rfl) _
      have hY7 := rep_ret hY6 (.int .i64 ze) (.int .u64 zn) (.int .u64 zx) rfl
      have hM7 := hM6.stepB hY0 hY6 (by decide) (by decide) (by decide) (by decide) hZ
      have hG7 := hG6.keeps hZ (fun e => hYG e.symm)
      have hB7 := hB6.keeps hZ (fun e => by subst e; exact hB6.ofT.ne_blk hY6 (by decide) rfl)
      generalize ((w6.setCell ⟨Y, 0, none⟩ (.int .i64 ze)).setCell ⟨Y, 1, none⟩ (.int .u64 zn)).setCell ⟨Y, 2, none⟩ (.int .u64 zx) = w7 at hY7 hM7 hG7 hB7 ⊢
      clear hZ hM6 hG6 hY6 hB6
      clear y0 y1 y2 yf0 yf1 yf2
      have y0 := hY7.cell 0
      have y1 := hY7.cell 1
      have y2 := hY7.cell 2
      simp only [List.getElem?_toArray, List.getElem?_cons_succ, List.getElem?_cons_zero] at y0 y1 y2
      have c1 := hB7.cell 1
      have c2 := hB7.cell 2
      have p0 := hM7.at_.blk.cell 0
      simp only [List.getElem?_toArray, List.getElem?_cons_succ, List.getElem?_cons_zero] at c1 c2 p0
      refine wp_region_tail 9 (by kernel_rfl) (by kernel_rfl) ?_
      simp only [List.take_succ_cons, List.take_zero, List.drop_succ_cons, List.drop_zero]
      repeat still_step
      try refine wpStill_nil ?_
      have hD := (Only.refl NoBlock w7).drew
      have hM7d := hM7.stepN hD
      have hGd := Blk.drew hG7
      have hYd := Blk.drew hY7
      go_wp2_with fail
      refine (tend_at w7.drew tb v2 xt hM7d.at_.tab hCs.1.len a b ⟨ze, zn, zx⟩ fi hfi hfs2 hsq).mono ?_
      rintro e w8 ⟨rfl, v3, hT8⟩
      have hM8 := hM7d.stepT hT8
      have hG8 := hM7d.at_.keepBlk hGd (by decide) (by decide) (hT8.mach (mb := mb))
      have hY8 := hM7d.at_.keepBlk hYd (by decide) (by decide) (hT8.mach (mb := mb))
      clear hD hM7d hGd hYd hM7 hG7 hY7 hB7 c1 c2 p0 hT8
      clear y0 y1 y2
      have y0 := hY8.cell 0
      have y1 := hY8.cell 1
      have y2 := hY8.cell 2
      simp only [List.getElem?_toArray, List.getElem?_cons_succ, List.getElem?_cons_zero] at y0 y1 y2
      have g0 := hG8.cell 0
      have gf0 := hG8.free 0
      have g1 := hG8.cell 1
      have gf1 := hG8.free 1
      have g2 := hG8.cell 2
      have gf2 := hG8.free 2
      simp only [List.getElem?_toArray, List.getElem?_cons_succ, List.getElem?_cons_zero] at g0 g1 g2
      go_wp2_with fail
      have hV := rep_ret hG8 (.int .i64 ze) (.int .u64 zn) (.int .u64 zx) rfl
      have hW := sets_only (S := fun k => k = G) (g := G) (Only.refl _ w8) (fun _ => rfl) [.int .i64 ze, .int .u64 zn, .int .u64 zx] 0
      simp only [sets] at hW
      refine bodyPost_ret (results_cell_row (P := Try.prog) rfl _ _ G _ _ _ _ rfl hV HFS.out rfl size_rep) rfl ?_
      refine ⟨by rw [HA3.out]; rfl, v3, ?_⟩
      rw [HA3.out]
      exact hM8.stepB hG0 hG8 (by decide) (by decide) (by decide) (by decide) hW
end Go.Proofs.Ytogeeeigfhmpmaa
