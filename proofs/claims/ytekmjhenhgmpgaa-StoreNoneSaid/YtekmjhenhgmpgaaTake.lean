/- A record's bytes, into the state. -/
import Derived.Test.YtekmjhenhgmpgaaStoreM
namespace Go.Proofs.Ytekmjhenhgmpgaa
open Go.RowKit
set_option maxRecDepth 100000

theorem i64_wf {x : Int} (h0 : -9223372036854775808 ≤ x) (h1 : x ≤ 9223372036854775807) : (Lit.int .i64 x).wf = true := WalkArith.wf_i64 ⟨h0, h1⟩
theorem ReaderAt.keeps {S : Nat → Prop} {w w' : World} {p : Nat} {r : Pk.RD} (h : ReaderAt w p r) (ho : Only S w w') (hs : ¬ S p) : ReaderAt w' p r := ⟨h.1.keeps ho hs, h.2⟩

set_option maxHeartbeats 4000000 in
theorem take_row (w : World) (base p : Nat) (s : St) (v : Value) (hS : StV w base p s v) (hll : s.es.length ≤ 1000000000000) (b : ByteArray) (hb : b.size ≤ 1000000000000) :
    Calls Try.prog 38 #[.pointer (some ⟨p, 0, none⟩), .string b] w (TakeEndV base p s v b w) := by
  obtain ⟨⟨ht, hv⟩, ⟨si, st, sc, sd⟩, es⟩ := s
  obtain ⟨hbase, hh, hs, hB, hE⟩ := hS
  simp only [stCells] at hB hE hll hh hs
  have hpl := hB.lt
  have HK : RowKit.Hid (Sto.kind b = Pk.numV (nums b)) := Lib.hid rfl
  have HR0 : RowKit.Hid (Sto.r0 b = Pk.numR ⟨nums b, false⟩) := Lib.hid rfl
  go_enter Try.func38, Try.ntmps38
  go_wp2_with fail
  refine (rfrom_at w b hb).mono ?_
  rintro e w1 ⟨rfl, hR1, hO1⟩
  have hzr := hR1.1.lt
  have hne : p ≠ w.heap.size := by omega
  generalize hqe : w.heap.size = q at hR1 hpl hne hzr ⊢
  have hqw : w.heap.size ≤ q := by omega
  have hqb : base ≤ q := by omega
  clear hqe
  go_wp2_with fail
  refine (rnum_at w1 q _ hR1).mono ?_
  rintro e w2 ⟨rfl, hR2, hO2⟩
  simp only at hR2 ⊢
  rw [← HK.out]
  rw [← HR0.out] at hR2
  have hB2 := (hB.keeps hO1 (fun h => h)).keeps hO2 hne
  have hO : Only NoBlock w w2 := hO1.andThen hO2 (fun k hk h => by have h' : k = q := h; omega)
  have hE2 : Ents w2 base v es := (hE.keeps hO1 (fun _ _ h => h)).keeps hO2 (fun k hk h => by have h' : k = q := h; have := World.ownsRow.lt hE.1 k hk; omega)
  have hvq : ∀ k, v.ownBlock = some k → k ≠ q := fun k hk h => by have := World.ownsRow.lt hE.1 k hk; omega
  have hvp : v.ownBlock ≠ some p := hE.apart hB (by decide)
  clear hB hE hO1 hO2 hR1 HK
  have HT : RowKit.Hid (Sto.take ⟨⟨ht, hv⟩, ⟨si, st, sc, sd⟩, es⟩ b = Sto.takeK ⟨⟨ht, hv⟩, ⟨si, st, sc, sd⟩, es⟩ (Sto.kind b) (Sto.r0 b)) := Lib.hid rfl
  generalize Sto.kind b = k at HT ⊢
  generalize Sto.r0 b = r at HT hR2 HR0
  by_cases k1 : k = 1
  · subst k1
    unfold Sto.takeK at HT
    rw [if_pos rfl] at HT
    go_wp2_with fail
    refine (rnum_at w2 q _ hR2).mono ?_
    rintro e w3 ⟨rfl, hR3, hO3⟩
    go_wp2_with fail
    refine (rup_at w3 q _ hR3 7 (by omega)).mono ?_
    rintro e w4 ⟨rfl, hR4, hO4⟩
    have hle := Sto.up_le (Pk.numR r) 7
    have hx := Pk.numV_lt hR2.2.1
    have HV : RowKit.Hid (Sto.hardV r = ⟨Pk.numV r.s, (((Pk.numR r).up 7).1 : Int) - 1⟩) := Lib.hid rfl
    change ReaderAt w4 q (Sto.hardR r) at hR4
    have hO34 := hO3.trans hO4
    clear hR3 hO3 hO4 hR2
    have hB4 := hB2.keeps hO34 hne
    have hE4 : Ents w4 base v es := hE2.keeps hO34 (fun k hk h => hvq k hk h)
    have hO5 : Only NoBlock w w4 := hO.andThen hO34 (fun k hk h => by have h' : k = q := h; omega)
    generalize ((Pk.numR r).up 7).1 = u at hle HV ⊢
    generalize Pk.numV r.s = x at hx HV ⊢
    generalize Sto.hardR r = r4 at HT hR4
    have hw : IntKind.i64.wrap ((u : Int) - 1) = (u : Int) - 1 := IntWalk.i64_in _ (by omega)
    clear hB2 hE2 hO hO34
    go_upto_region 6 with fail
    have hbE := Blk.made w4 #[.int .u64 x, .int .i64 ((u : Int) - 1)] 37
    have hA := (Only.refl NoBlock w4).alloc (Obj.cells #[.int .u64 x, .int .i64 ((u : Int) - 1)] 37)
    have hpE : p ≠ w4.heap.size := by have := hB4.lt; omega
    have hvE : ∀ k, v.ownBlock = some k → k ≠ w4.heap.size := fun k hk h => by have := World.ownsRow.lt hE4.1 k hk; omega
    generalize w4.heap.size = E at hbE hpE hvE ⊢
    generalize w4.alloc (Obj.cells #[.int .u64 x, .int .i64 ((u : Int) - 1)] 37) = w5 at hbE hA ⊢
    go_wp2_with fail
    refine (rdone_at w5 q _ (hR4.keeps hA (fun h => h))).mono ?_
    rintro e w6 ⟨rfl, n, rfl⟩
    have hb6 := hbE.drewN n
    have hB6 := (hB4.keeps hA (fun h => h)).drewN n
    have hE6 : Ents (w5.drewN n) base v es := (hE4.keeps hA (fun _ _ h => h)).keeps ((Only.refl NoBlock w5).drewN n) (fun _ _ h => h)
    have hO6 := (hO5.trans hA).drewN n
    clear hbE hA hB4 hE4 hO5 hR4
    generalize w5.drewN n = w6 at hb6 hB6 hE6 hO6 ⊢
    cases hdn : r4.done with
    | false =>
      rw [hdn, if_neg (by decide)] at HT
      go_wp2_with fail
      go_ret
      exact ⟨hO6.of_no, .inr ⟨HT.out, rfl⟩⟩
    | true =>
      rw [hdn, if_pos rfl, HV.out] at HT
      clear hdn HV
      have c0 := hB6.cell 0
      have c1 := hB6.cell 1
      have f0 := hB6.free 0
      have f1 := hB6.free 1
      have e0 := hb6.cell 0
      have e1 := hb6.cell 1
      simp only [List.getElem?_toArray, List.getElem?_cons_succ, List.getElem?_cons_zero] at c0 c1 e0 e1
      go_wp2_with fail
      go_ret
      refine ⟨(hO6.of_no.setCell (p := ⟨p, 0, none⟩) (fun _ => .inl rfl) _).setCell (p := ⟨p, 1, none⟩) (fun _ => .inl rfl) _, .inl ⟨_, v, HT.out, rfl, ⟨hbase, ⟨hx, i64_wf (x := (u : Int) - 1) (by omega) (by omega)⟩, hs, (hB6.setCell 0 _).setCell 1 _, ?_⟩, fun k hk => .inl hk⟩⟩
      exact hE6.keeps (S := fun k => k = p) (((Only.refl (fun k => k = p) w6).setCell (p := ⟨p, 0, none⟩) (fun _ => rfl) _).setCell (p := ⟨p, 1, none⟩) (fun _ => rfl) _) (fun k hk h => hvp (by rw [hk, h]))
  by_cases k2 : k = 2
  · subst k2
    unfold Sto.takeK at HT
    rw [if_neg (by decide), if_pos rfl] at HT
    clear k1
    go_wp2_with fail
    refine (rnum_at w2 q _ hR2).mono ?_
    rintro e w3 ⟨rfl, hR3, hO3⟩
    go_wp2_with fail
    refine (rnum_at w3 q _ hR3).mono ?_
    rintro e w4 ⟨rfl, hR4, hO4⟩
    go_wp2_with fail
    refine (rup_at w4 q _ hR4 2 (by omega)).mono ?_
    rintro e w5 ⟨rfl, hR5, hO5⟩
    change ReaderAt w5 q (Sto.entR r) at hR5
    go_wp2_with fail
    refine (rtext_at w5 q _ hR5 65536 (by omega)).mono ?_
    rintro e wL ⟨rfl, hRL, hOL⟩
    have hle := Sto.up_le (Pk.numR (Pk.numR r)) 2
    have hle2 : (textOf ((Sto.entR r).text 65536).1).size ≤ 65536 := by rw [textOf_size]; exact Sto.text_le _ _
    have hx := Pk.numV_lt hR2.2.1
    have hy := Pk.numV_lt hR3.2.1
    have HV : RowKit.Hid (Sto.entV r = ⟨Pk.numV r.s, Pk.numV (Pk.numR r).s, (((Pk.numR (Pk.numR r)).up 2).1 : Nat), textOf ((Sto.entR r).text 65536).1⟩) := Lib.hid rfl
    have hOr := ((hO3.trans hO4).trans hO5).trans hOL
    clear hR3 hO3 hO4 hR2 hR4 hR5 hO5 hOL
    have hR4 := hRL
    clear hRL
    have hB4 := hB2.keeps hOr hne
    have hE4 : Ents wL base v es := hE2.keeps hOr (fun k hk h => hvq k hk h)
    have hO5 : Only NoBlock w wL := hO.andThen hOr (fun k hk h => by have h' : k = q := h; omega)
    generalize ((Pk.numR (Pk.numR r)).up 2).1 = u at hle HV ⊢
    generalize textOf ((Sto.entR r).text 65536).1 = d at hle2 HV ⊢
    generalize Pk.numV (Pk.numR r).s = y at hy HV ⊢
    generalize Pk.numV r.s = x at hx HV ⊢
    generalize ((Sto.entR r).text 65536).2 = r4 at HT hR4
    clear hB2 hE2 hO hOr
    go_upto_region 11 with fail
    have hbE := Blk.made wL #[.int .u64 x, .int .u64 y, .int .i64 (u : Int), .string d] 77
    have hA := (Only.refl NoBlock wL).alloc (Obj.cells #[.int .u64 x, .int .u64 y, .int .i64 (u : Int), .string d] 77)
    have hpE : p ≠ wL.heap.size := by have := hB4.lt; omega
    have hvE : ∀ k, v.ownBlock = some k → k ≠ wL.heap.size := fun k hk h => by have := World.ownsRow.lt hE4.1 k hk; omega
    generalize wL.heap.size = E at hbE hpE hvE ⊢
    generalize wL.alloc (Obj.cells #[.int .u64 x, .int .u64 y, .int .i64 (u : Int), .string d] 77) = wM at hbE hA ⊢
    go_wp2_with fail
    refine (rdone_at wM q _ (hR4.keeps hA (fun h => h))).mono ?_
    rintro e wN ⟨rfl, n, rfl⟩
    have hb6 := hbE.drewN n
    have hB6 := (hB4.keeps hA (fun h => h)).drewN n
    have hE6 : Ents (wM.drewN n) base v es := (hE4.keeps hA (fun _ _ h => h)).keeps ((Only.refl NoBlock wM).drewN n) (fun _ _ h => h)
    have hO6 := (hO5.trans hA).drewN n
    clear hbE hA hB4 hE4 hO5 hR4
    generalize wM.drewN n = w6 at hb6 hB6 hE6 hO6 ⊢
    cases hdn : r4.done with
    | false =>
      rw [hdn, if_neg (by decide)] at HT
      go_wp2_with fail
      go_ret
      exact ⟨hO6.of_no, .inr ⟨HT.out, rfl⟩⟩
    | true =>
      rw [hdn, if_pos rfl, HV.out] at HT
      clear hdn HV
      have hwf : Ent.Wf ⟨x, y, (u : Int), d⟩ := ⟨hx, hy, WalkArith.wf_i64 (n := (u : Int)) ⟨by omega, by omega⟩, Nat.le_trans hle2 (by decide)⟩
      obtain ⟨ao, cap, rfl⟩ := hE6.shape
      have x0 : w6.cell? ⟨E, 0, none⟩ = some (.int .u64 x) := by rw [hb6.cell]; rfl
      have x1 : w6.cell? ⟨E, 1, none⟩ = some (.int .u64 y) := by rw [hb6.cell]; rfl
      have x2 : w6.cell? ⟨E, 2, none⟩ = some (.int .i64 (u : Int)) := by rw [hb6.cell]; rfl
      have x3 : w6.cell? ⟨E, 3, none⟩ = some (.string d) := by rw [hb6.cell]; rfl
      have c6 := hB6.cell 6
      have f6 := hB6.free 6
      simp only [List.getElem?_toArray, List.getElem?_cons_succ, List.getElem?_cons_zero] at c6
      have hpl6 := hB6.lt
      have HSZ := Lib.hid hO6.size
      have hlen2 : (es ++ [(⟨x, y, (u : Int), d⟩ : Ent)]).length = es.length + 1 := by simp
      have HLK2 := Lib.hid hlen2
      clear hlen2
      go_upto_region 13 with fail
      go_region_law (refine step_append_entw _ rfl _ _ rfl base _ es ⟨x, y, (u : Int), d⟩ hwf w6.heap.size 1 rfl (hE6.keeps (((Only.refl NoBlock _).alloc _).drew) (fun _ _ h => h)) rfl ?_ ?_ ?_ ?_ ?_ ?_ ?_; (exact (ent_made w6 ⟨x, y, (u : Int), d⟩ _).1); (exact (ent_made w6 ⟨x, y, (u : Int), d⟩ _).2.1); (exact (ent_made w6 ⟨x, y, (u : Int), d⟩ _).2.2.1); (exact (ent_made w6 ⟨x, y, (u : Int), d⟩ _).2.2.2); omega; (simp; omega); intro v7 w7 he7 hg7 hv7; have hp7 : Blk w7 p _ _ := (hg7.block _ (by simp; omega) (fun e => hvp e.symm)).trans (hB6.alloc _); have c7 := hp7.cell 6; have f7 := hp7.free 6; simp only [List.getElem?_toArray, List.getElem?_cons_succ, List.getElem?_cons_zero] at c7; obtain ⟨ao7, cap7, rfl⟩ := he7.shape; rw [HLK2.out] at he7 hv7)
      all_goals
        have hE7 := hE6.1
        have hB8 := hp7.setCell 6 (.slice ao7 (es.length + 1) cap7)
        have hO8 : Only (fun k => k = p ∨ (Value.slice ao es.length cap).ownBlock = some k) w (w7.setCell ⟨p, 6, none⟩ (.slice ao7 (es.length + 1) cap7)) := ((((hO6.alloc _).drew).of_no (S := fun k => k = p ∨ (Value.slice ao es.length cap).ownBlock = some k)).grown hg7 (fun j hj _ => .inr hj)).setCell (p := ⟨p, 6, none⟩) (fun _ => .inl rfl) _
        have hE8 : Ents (w7.setCell ⟨p, 6, none⟩ (.slice ao7 (es.length + 1) cap7)) base (.slice ao7 (es.length + 1) cap7) (es ++ [⟨x, y, (u : Int), d⟩]) := Ents.keeps (S := fun k => k = p) he7 ((Only.refl (fun k => k = p) w7).setCell (p := ⟨p, 6, none⟩) (fun _ => rfl) _) (fun j hj e => he7.apart hp7 (by decide) (by rw [hj, e]))
        generalize w7.setCell ⟨p, 6, none⟩ (.slice ao7 (es.length + 1) cap7) = w8 at hB8 hO8 hE8 ⊢
        clear hp7 c7 f7 he7 hg7 x0 x1 x2 x3 c6 f6 hE7 hB6 hb6 hE6 hO6
        go_wp2_with fail
        go_ret
        exact ⟨hO8, .inl ⟨_, _, HT.out, rfl, ⟨hbase, hh, hs, hB8, hE8⟩, fun k hk => hv7.elim (fun e => .inl (e ▸ hk)) (fun e => .inr (by rw [e] at hk; cases hk; have := HSZ.out; simp; omega))⟩⟩
  by_cases k3 : k = 3
  · subst k3
    unfold Sto.takeK at HT
    rw [if_neg (by decide), if_neg (by decide), if_pos rfl] at HT
    clear k1 k2
    go_wp2_with fail
    refine (rnum_at w2 q _ hR2).mono ?_
    rintro e w3 ⟨rfl, hR3, hO3⟩
    have hx := Pk.numV_lt hR2.2.1
    have hB4 := hB2.keeps hO3 hne
    have hE4 : Ents w3 base v es := hE2.keeps hO3 (fun k hk h => hvq k hk h)
    have hO5 : Only NoBlock w w3 := hO.andThen hO3 (fun k hk h => by have h' : k = q := h; omega)
    generalize Pk.numV r.s = x at hx HT ⊢
    generalize Pk.numR r = r4 at HT hR3
    clear hB2 hE2 hO hO3 hR2 HR0
    go_wp2_with fail
    refine (rdone_at w3 q _ hR3).mono ?_
    rintro e w4 ⟨rfl, n, rfl⟩
    have hB6 := hB4.drewN n
    have hE6 : Ents (w3.drewN n) base v es := hE4.keeps ((Only.refl NoBlock w3).drewN n) (fun _ _ h => h)
    have hO6 := hO5.drewN n
    clear hB4 hE4 hO5 hR3
    generalize w3.drewN n = w6 at hB6 hE6 hO6 ⊢
    cases hdn : r4.done with
    | false =>
      rw [hdn, if_neg (by decide)] at HT
      go_wp2_with fail
      go_ret
      exact ⟨hO6.of_no, .inr ⟨HT.out, rfl⟩⟩
    | true =>
      rw [hdn, if_pos rfl] at HT
      clear hdn
      obtain ⟨ao, cap, rfl⟩ := hE6.shape
      obtain ⟨hin, hcl, hcm⟩ := hE6.read (by omega)
      have c6 := hB6.cell 6
      have f6 := hB6.free 6
      simp only [List.getElem?_toArray, List.getElem?_cons_succ, List.getElem?_cons_zero] at c6
      go_wp2_with fail
      go_loopw [9] (fun v9 wr => ∃ m : Nat, m ≤ es.length ∧ v9 = .int .i64 m ∧ wr = w6 ∧ RowKit.Hid (∀ j, j < m → (es.getD j Ent.zero).index < x)) (fun v9 _ => es.length - (intOf v9).toNat)
      case atStart => exact ⟨0, by omega, rfl, rfl, Lib.hid (fun j hj => by omega)⟩
      case round =>
        obtain ⟨m, hm, rfl, rfl, HM⟩ := hrel
        by_cases hlt : m < es.length
        · obtain ⟨bb, off, rfl, e0, e1, -, -⟩ := hin.cell m hlt
          by_cases hy : (es.getD m Ent.zero).index < x
          · have HM2 : RowKit.Hid (∀ j, j < m + 1 → (es.getD j Ent.zero).index < x) := Lib.hid (fun j hj => by
              by_cases hjm : j < m
              · exact HM.out j hjm
              · obtain rfl : j = m := by omega
                exact hy)
            generalize (es.getD m Ent.zero).index = y at e1 hy
            generalize (es.getD m Ent.zero).term = yt at e0
            have d1 : decide (y < x) = true := by simpa using hy
            clear hy
            go_wp2_with fail
            go_roundw
            case rel => exact ⟨m + 1, by omega, by go_num, trivial, HM2⟩
            case measure => simp [intOf]; omega
          · have HCT : RowKit.Hid (Sto.cutOff x es = es.take m) := Lib.hid (Sto.cutOff_take x es m hm HM.out (.inr hy))
            generalize (es.getD m Ent.zero).index = y at e1 hy
            generalize (es.getD m Ent.zero).term = yt at e0
            have d1 : decide (y < x) = false := by simpa using hy
            clear hy
            have HT2 : RowKit.Hid (Sto.take ⟨⟨ht, hv⟩, ⟨si, st, sc, sd⟩, es⟩ b = some ⟨⟨ht, hv⟩, ⟨si, st, sc, sd⟩, es.take m⟩) := Lib.hid (by rw [HT.out, HCT.out])
            have hE7 := hE6.take m hm
            have hlt7 : (es.take m).length = m := by rw [List.length_take]; omega
            clear HT HCT HM
            go_wp2_with (first
              | (refine wpList_slice_h wr rfl _ _ _ rfl 4 Sto.u_elem Sto.z_elem _ es.length cap m .i64 rfl rfl (by omega) ?_))
            have hB8 := hB6.setCell 6 (.slice (some ⟨bb, off, none⟩) m cap)
            have hO8 : Only (fun k => k = p ∨ (Value.slice (some ⟨bb, off, none⟩) es.length cap).ownBlock = some k) w (wr.setCell ⟨p, 6, none⟩ (.slice (some ⟨bb, off, none⟩) m cap)) := (hO6.of_no (S := fun k => k = p ∨ (Value.slice (some ⟨bb, off, none⟩) es.length cap).ownBlock = some k)).setCell (p := ⟨p, 6, none⟩) (fun _ => .inl rfl) _
            have hE8 : Ents (wr.setCell ⟨p, 6, none⟩ (.slice (some ⟨bb, off, none⟩) m cap)) base (.slice (some ⟨bb, off, none⟩) m cap) (es.take m) := Ents.keeps (S := fun k => k = p) hE7 ((Only.refl (fun k => k = p) wr).setCell (p := ⟨p, 6, none⟩) (fun _ => rfl) _) (fun j hj e => hE7.apart hB6 (by decide) (by rw [hj, e]))
            go_ret
            exact ⟨hO8, .inl ⟨_, _, HT2.out, rfl, ⟨hbase, hh, hs, hB8, hE8⟩, fun k hk => .inl hk⟩⟩
        · obtain rfl : m = es.length := by omega
          have HCT : RowKit.Hid (Sto.cutOff x es = es.take es.length) := Lib.hid (Sto.cutOff_take x es es.length hm HM.out (.inl rfl))
          have HT2 : RowKit.Hid (Sto.take ⟨⟨ht, hv⟩, ⟨si, st, sc, sd⟩, es⟩ b = some ⟨⟨ht, hv⟩, ⟨si, st, sc, sd⟩, es.take es.length⟩) := Lib.hid (by rw [HT.out, HCT.out])
          have hE7 := hE6.take es.length hm
          have hlt7 : (es.take es.length).length = es.length := by rw [List.length_take]; omega
          clear HT HCT HM
          go_wp2_with (first
            | (refine wpList_slice_h wr rfl _ _ _ rfl 4 Sto.u_elem Sto.z_elem _ es.length cap es.length .i64 rfl rfl (by omega) ?_))
          have hB8 := hB6.setCell 6 (.slice ao es.length cap)
          have hO8 : Only (fun k => k = p ∨ (Value.slice ao es.length cap).ownBlock = some k) w (wr.setCell ⟨p, 6, none⟩ (.slice ao es.length cap)) := (hO6.of_no (S := fun k => k = p ∨ (Value.slice ao es.length cap).ownBlock = some k)).setCell (p := ⟨p, 6, none⟩) (fun _ => .inl rfl) _
          have hE8 : Ents (wr.setCell ⟨p, 6, none⟩ (.slice ao es.length cap)) base (.slice ao es.length cap) (es.take es.length) := Ents.keeps (S := fun k => k = p) hE7 ((Only.refl (fun k => k = p) wr).setCell (p := ⟨p, 6, none⟩) (fun _ => rfl) _) (fun j hj e => hE7.apart hB6 (by decide) (by rw [hj, e]))
          go_ret
          exact ⟨hO8, .inl ⟨_, _, HT2.out, rfl, ⟨hbase, hh, hs, hB8, hE8⟩, fun k hk => .inl hk⟩⟩
  by_cases k4 : k = 4
  · subst k4
    unfold Sto.takeK at HT
    rw [if_neg (by decide), if_neg (by decide), if_neg (by decide), if_pos rfl] at HT
    clear k1 k2 k3
    go_wp2_with fail
    refine (rnum_at w2 q _ hR2).mono ?_
    rintro e w3 ⟨rfl, hR3, hO3⟩
    go_wp2_with fail
    refine (rnum_at w3 q _ hR3).mono ?_
    rintro e w4 ⟨rfl, hR4, hO4⟩
    go_wp2_with fail
    refine (rnum_at w4 q _ hR4).mono ?_
    rintro e w5 ⟨rfl, hR5, hO5⟩
    go_wp2_with fail
    refine (rtext_at w5 q _ hR5 65536 (by omega)).mono ?_
    rintro e wL ⟨rfl, hRL, hOL⟩
    have hle2 : (textOf ((Pk.numR (Pk.numR (Pk.numR r))).text 65536).1).size ≤ 65536 := by rw [textOf_size]; exact Sto.text_le _ _
    have hx := Pk.numV_lt hR2.2.1
    have hy := Pk.numV_lt hR3.2.1
    have hz := Pk.numV_lt hR4.2.1
    have HV : RowKit.Hid (Sto.snapV r = ⟨Pk.numV r.s, Pk.numV (Pk.numR r).s, Pk.numV (Pk.numR (Pk.numR r)).s, textOf ((Pk.numR (Pk.numR (Pk.numR r))).text 65536).1⟩) := Lib.hid rfl
    have hOr := ((hO3.trans hO4).trans hO5).trans hOL
    clear hR3 hO3 hO4 hR2 hR4 hR5 hO5 hOL
    have hR4 := hRL
    clear hRL
    have hB4 := hB2.keeps hOr hne
    have hE4 : Ents wL base v es := hE2.keeps hOr (fun k hk h => hvq k hk h)
    have hO5 : Only NoBlock w wL := hO.andThen hOr (fun k hk h => by have h' : k = q := h; omega)
    generalize textOf ((Pk.numR (Pk.numR (Pk.numR r))).text 65536).1 = d at hle2 HV ⊢
    generalize ((Pk.numR (Pk.numR (Pk.numR r))).text 65536).2 = r4 at HT hR4
    generalize Pk.numV (Pk.numR (Pk.numR r)).s = z at hz HV ⊢
    generalize Pk.numV (Pk.numR r).s = y at hy HV ⊢
    generalize Pk.numV r.s = x at hx HV ⊢
    clear hB2 hE2 hO hOr
    go_upto_region 24 with fail
    have hbE := Blk.made wL #[.int .u64 x, .int .u64 y, .int .u64 z, .string d] 39
    have hA := (Only.refl NoBlock wL).alloc (Obj.cells #[.int .u64 x, .int .u64 y, .int .u64 z, .string d] 39)
    have hpE : p ≠ wL.heap.size := by have := hB4.lt; omega
    have hvE : ∀ k, v.ownBlock = some k → k ≠ wL.heap.size := fun k hk h => by have := World.ownsRow.lt hE4.1 k hk; omega
    generalize wL.heap.size = E at hbE hpE hvE ⊢
    generalize wL.alloc (Obj.cells #[.int .u64 x, .int .u64 y, .int .u64 z, .string d] 39) = wM at hbE hA ⊢
    go_wp2_with fail
    refine (rdone_at wM q _ (hR4.keeps hA (fun h => h))).mono ?_
    rintro e wN ⟨rfl, n, rfl⟩
    have hb6 := hbE.drewN n
    have hB6 := (hB4.keeps hA (fun h => h)).drewN n
    have hE6 : Ents (wM.drewN n) base v es := (hE4.keeps hA (fun _ _ h => h)).keeps ((Only.refl NoBlock wM).drewN n) (fun _ _ h => h)
    have hO6 := (hO5.trans hA).drewN n
    clear hbE hA hB4 hE4 hO5 hR4
    generalize wM.drewN n = w6 at hb6 hB6 hE6 hO6 ⊢
    cases hdn : r4.done with
    | false =>
      rw [hdn, if_neg (by decide)] at HT
      go_wp2_with fail
      go_ret
      exact ⟨hO6.of_no, .inr ⟨HT.out, rfl⟩⟩
    | true =>
      rw [hdn, if_pos rfl, HV.out] at HT
      clear hdn HV
      have c2 := hB6.cell 2
      have c3 := hB6.cell 3
      have c4 := hB6.cell 4
      have c5 := hB6.cell 5
      have c6 := hB6.cell 6
      have f2 := hB6.free 2
      have f3 := hB6.free 3
      have f4 := hB6.free 4
      have f5 := hB6.free 5
      have f6 := hB6.free 6
      have e0 := hb6.cell 0
      have e1 := hb6.cell 1
      have e2 := hb6.cell 2
      have e3 := hb6.cell 3
      simp only [List.getElem?_toArray, List.getElem?_cons_succ, List.getElem?_cons_zero] at c2 c3 c4 c5 c6 e0 e1 e2 e3
      go_wp2_with fail
      go_ret
      exact ⟨(((((hO6.of_no.setCell (p := ⟨p, 2, none⟩) (fun _ => .inl rfl) _).setCell (p := ⟨p, 3, none⟩) (fun _ => .inl rfl) _).setCell (p := ⟨p, 4, none⟩) (fun _ => .inl rfl) _).setCell (p := ⟨p, 5, none⟩) (fun _ => .inl rfl) _).setCell (p := ⟨p, 6, none⟩) (fun _ => .inl rfl) _), .inl ⟨_, .slice none 0 0, HT.out, rfl, ⟨hbase, hh, ⟨hx, hy, hz, Nat.le_trans hle2 (by decide)⟩, (((((hB6.setCell 2 _).setCell 3 _).setCell 4 _).setCell 5 _).setCell 6 _), Ents.nil _ _⟩, fun k hk => by cases hk⟩⟩
  unfold Sto.takeK at HT
  rw [if_neg k1, if_neg k2, if_neg k3, if_neg k4] at HT
  have d1 : ((k : Int) == 1) = false := by simp; omega
  have d2 : ((k : Int) == 2) = false := by simp; omega
  have d3 : ((k : Int) == 3) = false := by simp; omega
  have d4 : ((k : Int) == 4) = false := by simp; omega
  clear k1 k2 k3 k4
  go_wp2_with fail
  go_ret
  exact ⟨hO.of_no, .inr ⟨HT.out, rfl⟩⟩
theorem take_at (w : World) (base p : Nat) (s : St) (hS : StAt w base p s) (hll : s.es.length ≤ 1000000000000) (b : ByteArray) (hb : b.size ≤ 1000000000000) :
    Calls Try.prog 38 #[.pointer (some ⟨p, 0, none⟩), .string b] w (TakeEnd base p s b w) := by
  obtain ⟨v, hV⟩ := hS.val
  refine (take_row w base p s v hV hll b hb).mono ?_
  rintro e w' ⟨hO, hE⟩
  refine ⟨hO.mono (fun k hk => hk.elim (fun e => by rw [e]; exact hV.from_) (fun e => (World.ownsRow.lt hV.row.1 k e).1)), ?_⟩
  rcases hE with ⟨s', v', h1, h2, h3, -⟩ | h
  · exact .inl ⟨s', h1, h2, h3.at⟩
  · exact .inr h
end Go.Proofs.Ytekmjhenhgmpgaa
