/- The walk of MachineMany: as many sagas as may be are taken, one more isn't; none is there twice. -/
import Derived.Test.YtogeeeigfhmpmaaBegun17
namespace Go.Proofs.Ytogeeeigfhmpmaa
open Go.RowKit Go.Maps
set_option maxRecDepth 100000

/-- a map of counts -/
def intM : MK Int where
  val := fun x => .int .i64 x
  dat := fun x => .lit (.int .i64 x)
  rd := fun v => match v with | .int .i64 x => some (.lit (.int .i64 x), []) | _ => none
  zero := 0
  rdv := fun _ => rfl
  inv := fun v y h => by
    split at h
    · cases h; exact ⟨_, rfl, rfl⟩
    · cases h
  inj := fun x y h => by cases h; rfl
namespace Mi
theorem u_map : Try.prog.underlying 36 = some (.map 28 3) := by kernel_rfl
theorem zero (w : World) : (zeroValue 3).run Try.prog w = .ok (intM.val intM.zero) w := by kernel_rfl
end Mi
/-- what was counted are the machine's sagas -/
def Counted (F : Nat → Option Int) (f : Mc.Sgs) : Prop := ∀ i, F i = if (f i).isSome = true then some 1 else none
/-- where the first loop stands: k sagas were submitted -/
structure ManyAt (w wr : World) (p tb mb sb : Nat) (v : Value) (k : Nat) (ids : List Nat) (f : Mc.Sgs) (y : Mc.Rep) (F : Nat → Option Int) : Prop where
  mach : MachAt wr p tb mb v ⟨Mc.oneTab k y, ids, f⟩
  ok : Mc.Mach.Ok ⟨Mc.oneTab k y, ids, f⟩
  seen : UMapAt intM Try.prog 28 wr sb F ids.length
  only : Only NoBlock w wr
  ltb : w.heap.size ≤ tb
  lmb : w.heap.size ≤ mb
  lsb : w.heap.size ≤ sb
  lv : ∀ j, v.ownBlock = some j → w.heap.size ≤ j
  ne : sb ≠ mb
theorem UMapAt.not_ofT {V : Type} {M : MK V} {P : Program} {k : TypeId} {w : World} {b n : Nat} {F : Nat → Option V} (h : UMapAt M P k w b F n) {g : Nat} {E : TypeId} (hg : OfT w g E) : g ≠ b := by
  obtain ⟨cs, r, hb⟩ := hg
  exact fun e => h.ne_cells hb e.symm
section
variable {w wr wr' : World} {p tb mb sb : Nat} {v : Value} {k : Nat} {ids : List Nat} {f : Mc.Sgs} {y : Mc.Rep} {F : Nat → Option Int}
theorem ManyAt.stepN (h : ManyAt w wr p tb mb sb v k ids f y F) (ho : Only NoBlock wr wr') : ManyAt w wr' p tb mb sb v k ids f y F :=
  ⟨h.mach.keepsN ho, h.ok, h.seen.keeps ho (fun h => h), h.only.trans ho, h.ltb, h.lmb, h.lsb, h.lv, h.ne⟩
/-- a command was applied -/
theorem ManyAt.stepA {v' : Value} {k' : Nat} {ids' : List Nat} {f' : Mc.Sgs} {y' : Mc.Rep} (h : ManyAt w wr p tb mb sb v k ids f y F) (hT : MachTo p tb mb v ⟨Mc.oneTab k' y', ids', f'⟩ wr wr' v') (hok : Mc.Mach.Ok ⟨Mc.oneTab k' y', ids', f'⟩) :
    MachAt wr' p tb mb v' ⟨Mc.oneTab k' y', ids', f'⟩ ∧ Mc.Mach.Ok ⟨Mc.oneTab k' y', ids', f'⟩ ∧ UMapAt intM Try.prog 28 wr' sb F ids.length ∧ Only NoBlock w wr' ∧ (∀ j, v'.ownBlock = some j → w.heap.size ≤ j) := by
  refine ⟨hT.at_, hok, h.seen.keeps hT.only (fun e => ?_), hT.fresh h.only h.ltb h.lmb h.lv, fun j hj => ?_⟩
  · rcases e with e | e | e
    · exact h.seen.not_ofT h.mach.tab.blk.ofT e.symm
    · exact h.ne e
    · exact h.seen.not_ofT (h.mach.tab.row.ofT e) rfl
  · rcases hT.row j hj with h1 | h1
    · exact h.lv j h1
    · exact Nat.le_trans h.only.size h1
end
theorem sub_enc_as (w : World) (ao : Option Addr) (cap : Nat) (h : RowIn stpK 38 w ao Mc.oneStep) (seq id : Nat) (sq : Int) (hsq : sq = ((seq : Nat) : Int)) (h1 : seq < 18446744073709551616) (h2 : id < 18446744073709551616) :
    Calls Try.prog 9 #[.agg #[.int .i64 2, .int .u64 1, .int .u64 sq, .int .u64 id, .slice ao 1 cap, .int .i64 0, .bool false, .int .i64 0, .bool false, .int .u64 0]] w fun e w' => e = .returned (.tuple #[.string (textOf (Pk.enc (Mc.subCmd seq id))), .int .i64 0]) ∧ Only NoBlock w w' := by
  subst hsq
  exact sub_enc_at w ao cap h seq id h1 h2
set_option maxHeartbeats 8000000 in
theorem many_at (w : World) (ao : Option Addr) (cap : Nat) (l : List Int) (hl : U64In w ao l) :
    Calls Try.prog 3 #[.slice ao l.length cap] w fun e w' => e = .returned (.bool true) ∧ Only NoBlock w w' := by
  have HAO : RowKit.Hid (∀ a, ao = some a → 0 < l.length → a.block < w.heap.size) := Lib.hid (fun a ha h0 => by
    obtain ⟨b, off, e, hc⟩ := hl.cell 0 h0
    rw [ha] at e
    cases e
    exact World.block_lt_of_cell? w _ hc)
  have hmm := @run_makeMap Try.prog
  have hlm := hl.len
  unfold maxLen at hlm
  go_enter Try.func3, Try.ntmps3
  go_wp2_with fail
  refine (begun17_at w).mono ?_
  rintro e w0 ⟨rfl, hO0⟩
  have hl0 := hl.stay hO0 (fun _ _ h => h)
  by_cases h200 : 200 < l.length
  · have d0 : decide (200 < (l.length : Int)) = true := by simp; omega
    clear h200
    go_wp2_with fail
    go_ret
    exact ⟨rfl, hO0⟩
  have d0 : decide (200 < (l.length : Int)) = false := by rw [decide_eq_false_iff_not]; omega
  go_wp2_with fail
  refine (mnew_at w0).mono ?_
  rintro e w1 ⟨p, tb, mb, rfl, hM1, hO1, hp, htb, hmb, hpl⟩
  have hl1 := hl0.stay hO1 (fun _ _ h => h)
  go_wp2_with fail
  refine (reg_enc_at w1).mono ?_
  rintro e w2 ⟨rfl, hO2⟩
  have hl2 := hl1.stay hO2 (fun _ _ h => h)
  have hM2 := (MachTo.refl hM1).stepN hO2
  go_wp2_with fail
  refine (apply_as hM2.at_ Mc.Mach.new_ok Mc.reg_byt reg_small).mono ?_
  rintro e w3 ⟨rfl, v3, hM3⟩
  have hok3 := (Mc.Mach.new_ok.apply Mc.reg_byt).1
  rw [begun_1] at hM3 hok3 ⊢
  have hMA := hM2.trans hM3
  have hO3 := hMA.fresh hO1 htb hmb (fun k hk => by cases hk)
  have hOw := hO0.trans hO3
  have hl3 := hl0.stay hO3 (fun _ _ h => h)
  have hsz := hO0.size
  have hv3 : ∀ j, v3.ownBlock = some j → w.heap.size ≤ j := fun j hj => by
    rcases hMA.row j hj with h | h
    · cases h
    · have := hO1.size; omega
  have hmbl := hMA.at_.sgs.lt
  have hS4 := UMapAt.made intM Try.prog 28 w3
  have hA4 := (Only.refl NoBlock w3).alloc (.map #[] 0)
  have hI : ManyAt w (w3.alloc (.map #[] 0)) p tb mb w3.heap.size v3 0 [] (fun _ => none) ⟨0, 0, 0⟩ (fun _ => none) :=
    ⟨hMA.at_.keepsN hA4, hok3, hS4, hOw.trans hA4, by omega, by omega, hOw.size, hv3, by omega⟩
  have hl4 := hl3.stay hA4 (fun _ _ h => h)
  have HC : RowKit.Hid (Counted (fun _ => none) (fun _ => none)) := Lib.hid (fun i => rfl)
  clear hM1 hM2 hM3 hMA hO0 hO1 hO2 hO3 hS4 hok3 hl1 hl2 hl0 hl3 htb hmb hp hpl
  unfold repV
  go_upto_region 9 with fail
  generalize w3.alloc (.map #[] 0) = w4 at hI hl4 ⊢
  generalize w3.heap.size = sb at hI ⊢
  clear hA4 hOw hmbl hsz hv3
  go_wp2_with fail
  go_loopw [33] (fun v33 wr => ∃ (k : Nat) (v : Value) (ids : List Nat) (f : Mc.Sgs) (y : Mc.Rep) (F : Nat → Option Int), k ≤ l.length ∧ v33 = .int .i64 k ∧ ManyAt w wr p tb mb sb v k ids f y F ∧ U64In wr ao l ∧ RowKit.Hid (Counted F f)) (fun v33 _ => l.length - (intOf v33).toNat)
  case atStart => exact ⟨0, v3, [], fun _ => none, ⟨0, 0, 0⟩, fun _ => none, by omega, rfl, hI, hl4, HC⟩
  case round =>
    clear hI hl4 HC
    obtain ⟨k, v, ids, f, y, F, hk, rfl, hI, hlr, HC⟩ := hrel
    by_cases hlt : k < l.length
    · obtain ⟨b, off, rfl, hc⟩ := hlr.cell k hlt
      have hbw : b < w.heap.size := HAO.out _ rfl (by omega)
      have hwx : (Lit.int .u64 (l.getD k 0)).wf = true := by
        rw [List.getD_eq_getElem?_getD, List.getElem?_eq_getElem hlt]
        exact hlr.wf _ (List.getElem_mem hlt)
      obtain ⟨hx0, hx1⟩ := wf_u64_inv hwx
      generalize l.getD k 0 = x at hc hwx hx0 hx1
      obtain ⟨id, rfl⟩ : ∃ j : Nat, x = j := ⟨x.toNat, by omega⟩
      have hid : id < 18446744073709551616 := by omega
      have hkl : decide (k < l.length) = true := by simpa using hlt
      have hk0 : ¬ ((k : Int) < 0) := by omega
      have hcv : IntKind.u64.wrap ((k : Int) + 1) = ((k + 1 : Nat) : Int) := by rw [IntKind.wrap_u64]; omega
      clear hwx hx0 hx1
      have hk1 : k + 1 < 18446744073709551616 := by omega
      go_wp2_with fail
      have hA := (Only.refl NoBlock wr).alloc (Obj.cells #[.int .i64 0, .string ⟨#[115]⟩, .int .i64 1] 38)
      have hrw := rowIn_made stpK 38 wr #[.int .i64 0, .string ⟨#[115]⟩, .int .i64 1] ⟨0, [115], 1⟩ rfl
      have hI1 := hI.stepN hA
      have hlr1 := hlr.stay hA (fun _ _ h => h)
      generalize wr.alloc (Obj.cells #[.int .i64 0, .string ⟨#[115]⟩, .int .i64 1] 38) = wa at hI1 hlr1 hrw ⊢
      refine (sub_enc_as wa _ _ hrw (k + 1) id _ (by omega) hk1 hid).mono ?_
      rintro e wb ⟨rfl, hOb⟩
      have hI2 := hI1.stepN hOb
      have hlr2 := hlr1.stay hOb (fun _ _ h => h)
      clear hI hI1 hlr hlr1 hrw hA hOb hc
      have hap := Mc.sub_apply (n := k) (id := id) (y := y) (ids := ids) (f := f) hk1 hid
      have hokc := (hI2.ok.apply (Mc.sub_byt hk1 hid)).1
      have HS := Lib.hid (sub_small hk1 hid)
      have HBY := Lib.hid (Mc.sub_byt hk1 hid)
      go_wp2_with fail
      refine (apply_as hI2.mach hI2.ok HBY.out HS.out).mono ?_
      rintro e wc ⟨rfl, v', hT⟩
      have hlr3 : U64In wc (some ⟨b, off, none⟩) l := hlr2.stay hT.only (fun a ha e => by
        cases ha
        have h1 := hI2.ltb
        have h2 := hI2.lmb
        rcases e with e | e | e
        · have e' : b = tb := e; omega
        · have e' : b = mb := e; omega
        · have h3 : w.heap.size ≤ b := hI2.lv _ e; omega)
      have hFi := HC.out id
      cases hfi : f id with
      | some s =>
        rw [hfi] at hap hFi
        simp only at hap
        simp at hFi
        rw [hap] at hT hokc ⊢
        obtain ⟨hM4, hok4, hS4, hO4, hv4⟩ := hI2.stepA hT hokc
        unfold repV
        clear hap hT hokc hlr2
        go_upto_region 14 with fail
        have hA3 := (Only.refl NoBlock wc).alloc (Obj.cells #[.int .i64 42, .int .u64 0, .int .u64 0] 34)
        have hY := Blk.made wc #[.int .i64 42, .int .u64 0, .int .u64 0] 34
        have hM5 := hM4.keepsN hA3
        have hS5 := hS4.keeps hA3 (fun h => h)
        have hO5 := hO4.trans hA3
        have hlr5 := hlr3.stay hA3 (fun _ _ h => h)
        generalize wc.alloc (Obj.cells #[.int .i64 42, .int .u64 0, .int .u64 0] 34) = wd at hY hM5 hS5 hO5 hlr5 ⊢
        generalize wc.heap.size = Y at hY ⊢
        have y0 := hY.cell 0
        simp only [List.getElem?_toArray, List.getElem?_cons_zero] at y0
        clear hA3 hM4 hS4 hO4 hlr3 hY
        go_wp2_with (first
          | (at_lookup; refine wpList_ulook1 (M := intM) rfl _ _ _ rfl Mk.law Mk.u_u64k Mi.u_map Mi.zero hS5 rfl id rfl hid (.int .i64 1) (by rw [hFi]; rfl) ?_))
        go_roundw
        case rel => exact ⟨k + 1, v', ids, f, _, F, by omega, by go_num, ⟨hM5, hok4, hS5, hO5, hI2.ltb, hI2.lmb, hI2.lsb, hv4, hI2.ne⟩, hlr5, HC⟩
        case measure => simp [intOf]; omega
      | none =>
        rw [hfi] at hap hFi
        simp only at hap
        simp at hFi
        by_cases h16 : 16 ≤ ids.length
        · rw [if_pos h16] at hap
          rw [hap] at hT hokc ⊢
          obtain ⟨hM4, hok4, hS4, hO4, hv4⟩ := hI2.stepA hT hokc
          unfold repV
          clear hap hT hokc hlr2
          go_upto_region 14 with fail
          have hA3 := (Only.refl NoBlock wc).alloc (Obj.cells #[.int .i64 11, .int .u64 0, .int .u64 0] 34)
          have hY := Blk.made wc #[.int .i64 11, .int .u64 0, .int .u64 0] 34
          have hM5 := hM4.keepsN hA3
          have hS5 := hS4.keeps hA3 (fun h => h)
          have hO5 := hO4.trans hA3
          have hlr5 := hlr3.stay hA3 (fun _ _ h => h)
          generalize wc.alloc (Obj.cells #[.int .i64 11, .int .u64 0, .int .u64 0] 34) = wd at hY hM5 hS5 hO5 hlr5 ⊢
          generalize wc.heap.size = Y at hY ⊢
          have y0 := hY.cell 0
          simp only [List.getElem?_toArray, List.getElem?_cons_zero] at y0
          clear hA3 hM4 hS4 hO4 hlr3 hY
          have d16 : decide (16 ≤ (ids.length : Int)) = true := by simp; omega
          clear h16
          go_wp2_with (first
            | (at_lookup; refine wpList_ulook1 (M := intM) rfl _ _ _ rfl Mk.law Mk.u_u64k Mi.u_map Mi.zero hS5 rfl id rfl hid (.int .i64 0) (by rw [hFi]; rfl) ?_)
            | (at_len; refine wpList_ulen (M := intM) rfl _ _ rfl Mi.u_map hS5 rfl ?_))
          go_roundw
          case rel => exact ⟨k + 1, v', ids, f, _, F, by omega, by go_num, ⟨hM5, hok4, hS5, hO5, hI2.ltb, hI2.lmb, hI2.lsb, hv4, hI2.ne⟩, hlr5, HC⟩
          case measure => simp [intOf]; omega
        · rw [if_neg h16] at hap
          rw [hap] at hT hokc ⊢
          obtain ⟨hM4, hok4, hS4, hO4, hv4⟩ := hI2.stepA hT hokc
          unfold repV
          clear hap hT hokc hlr2
          go_upto_region 14 with fail
          have hA3 := (Only.refl NoBlock wc).alloc (Obj.cells #[.int .i64 0, .int .u64 1, .int .u64 0] 34)
          have hY := Blk.made wc #[.int .i64 0, .int .u64 1, .int .u64 0] 34
          have hM5 := hM4.keepsN hA3
          have hS5 := hS4.keeps hA3 (fun h => h)
          have hO5 := hO4.trans hA3
          have hlr5 := hlr3.stay hA3 (fun _ _ h => h)
          generalize wc.alloc (Obj.cells #[.int .i64 0, .int .u64 1, .int .u64 0] 34) = wd at hY hM5 hS5 hO5 hlr5 ⊢
          generalize wc.heap.size = Y at hY ⊢
          have y0 := hY.cell 0
          simp only [List.getElem?_toArray, List.getElem?_cons_zero] at y0
          have hYb : Blk wd Y _ _ := hY
          clear hA3 hM4 hS4 hO4 hlr3 hY
          have d16 : decide (16 ≤ (ids.length : Int)) = false := by rw [decide_eq_false_iff_not]; omega
          have hn16 : ids.length ≤ 1000000 := by omega
          have HC2 : RowKit.Hid (Counted (uput F id 1) (Mc.put f id (Mc.fresh Mc.oneStep))) := Lib.hid (by
            intro i
            unfold uput Mc.put
            by_cases e : i = id
            · rw [if_pos e, if_pos e]; simp
            · rw [if_neg e, if_neg e]; exact HC.out i)
          have hil : (Mc.insert ids id).length = ids.length + 1 := Mc.insert_length ids id
          have HIL := Lib.hid hil
          clear h16 hil
          have hsp : p ≠ sb := hS5.not_ofT hM5.blk.ofT
          have hst : tb ≠ sb := hS5.not_ofT hM5.tab.blk.ofT
          have hsv : ∀ j, v'.ownBlock = some j → j ≠ sb := fun j hj => hS5.not_ofT (hM5.tab.row.ofT hj)
          have hsE : ¬ OfT wd sb 38 := fun h => hS5.not_ofT h rfl
          have hYs : Y ≠ sb := hS5.not_ofT ⟨_, _, hYb⟩
          have hsb : b ≠ sb := by have := hI2.lsb; omega
          go_wp2_with (first
            | (at_lookup; refine wpList_ulook1 (M := intM) rfl _ _ _ rfl Mk.law Mk.u_u64k Mi.u_map Mi.zero hS5 rfl id rfl hid (.int .i64 0) (by rw [hFi]; rfl) ?_)
            | (at_len; refine wpList_ulen (M := intM) rfl _ _ rfl Mi.u_map hS5 rfl ?_)
            | (at_mapUpdate; refine wpList_ustore (M := intM) rfl _ _ _ _ rfl Mk.law Mk.u_u64k Mi.u_map hS5 hn16 rfl id rfl hid 1 rfl ?_; intro we hS6 hg6; have hOm := Only.of_grown hg6; have y0' : we.cell? ⟨Y, 0, none⟩ = some (.int .i64 0) := (World.cell?_of_block (a := ⟨Y, 0, none⟩) (hg6.block Y (World.block_lt_of_cell? _ _ y0) (fun e => hYs (by cases e; rfl)))).trans y0))
          rw [hFi, if_neg (by simp)] at hS6
          have hM6 : MachAt we p tb mb v' ⟨Mc.oneTab (k + 1) ⟨0, 1, 0⟩, Mc.insert ids id, Mc.put f id (Mc.fresh Mc.oneStep)⟩ := hM5.keeps hOm (fun e => hsp (by cases e; rfl)) (fun e => hst (by cases e; rfl)) (fun e => hI2.ne (by cases e; rfl)) (fun j hj e => hsv j hj (by cases e; rfl)) (fun j e => by cases e; exact hsE)
          have hO6 : Only NoBlock w we := hO5.grown hg6 (fun j hj hlt => by cases hj; have := hI2.lsb; omega)
          have hlr6 : U64In we (some ⟨b, off, none⟩) l := hlr5.stay hOm (fun a ha e => by cases ha; cases e; exact hsb rfl)
          go_roundw
          case rel => exact ⟨k + 1, v', Mc.insert ids id, Mc.put f id (Mc.fresh Mc.oneStep), _, uput F id 1, by omega, by go_num, ⟨hM6, hok4, by rw [HIL.out]; exact hS6, hO6, hI2.ltb, hI2.lmb, hI2.lsb, hv4, hI2.ne⟩, hlr6, HC2⟩
          case measure => simp [intOf]; omega
    · obtain rfl : k = l.length := by omega
      have hn16 := hI.ok.len
      simp only at hn16
      go_wp2_with fail
      refine (sagas_at wr p tb mb v _ hI.mach hI.ok).mono ?_
      rintro e w5 ⟨u, rfl, hu, hO5⟩
      have hS5 := hI.seen.keeps hO5 (fun h => h)
      have hOe := hI.only.trans hO5
      have hasc := hI.ok.asc
      have hids := hI.ok.ids
      have hhas := hI.ok.has
      simp only at hu hasc hids hhas
      have hfst : ∀ j, j < ids.length → ∃ id : Nat, (ids.map (fun i : Nat => (i : Int))).getD j 0 = (id : Int) ∧ id < 18446744073709551616 ∧ F id = some 1 := fun j hj => by
        refine ⟨ids[j], by rw [List.getD_eq_getElem?_getD, List.getElem?_map, List.getElem?_eq_getElem hj]; rfl, hids _ (List.getElem_mem hj), ?_⟩
        rw [HC.out, if_pos ((hhas _).2 (List.getElem_mem hj))]
      have hlts : ∀ j, j + 1 < ids.length → (ids.map (fun i : Nat => (i : Int))).getD j 0 < (ids.map (fun i : Nat => (i : Int))).getD (j + 1) 0 := fun j hj => by
        rw [List.getD_eq_getElem?_getD, List.getD_eq_getElem?_getD, List.getElem?_map, List.getElem?_map, List.getElem?_eq_getElem (by omega), List.getElem?_eq_getElem hj]
        have := List.pairwise_iff_getElem.1 hasc j (j + 1) (by omega) hj (by omega)
        simp
        omega
      have hll : (ids.map (fun i : Nat => (i : Int))).length = ids.length := List.length_map _
      generalize ids.map (fun i : Nat => (i : Int)) = l2 at hu hfst hlts hll
      rw [← hll] at hfst hlts hn16 hS5
      have HF := Lib.hid hfst
      have HL := Lib.hid hlts
      clear hfst hlts hll hasc hids hhas hI hlr HC hlt hk
      obtain ⟨ao2, cap2, rfl⟩ := hu.shape
      go_wp2_with fail
      go_loopw [74] (fun v74 wz => ∃ j : Nat, j ≤ l2.length ∧ v74 = .int .i64 j ∧ wz = w5) (fun v74 _ => l2.length - (intOf v74).toNat)
      case atStart => exact ⟨0, by omega, rfl, rfl⟩
      case round =>
        obtain ⟨j, hj, rfl, rfl⟩ := hrel
        by_cases hjl : j < l2.length
        · obtain ⟨b, off, rfl, hc⟩ := hu.at' hjl
          obtain ⟨id, hid, hidl, hF⟩ := HF.out j hjl
          rw [hid] at hc
          have hkl : decide (j < l2.length) = true := by simpa using hjl
          have hk0 : ¬ ((j : Int) < 0) := by omega
          cases j with
          | zero =>
            rw [Nat.add_zero] at hc
            have hk00 : 0 < l2.length := hjl
            have HID := Lib.hid hid
            clear hid
            go_wp2_with (first
              | (at_lookup; refine wpList_ulook1 (M := intM) rfl _ _ _ rfl Mk.law Mk.u_u64k Mi.u_map Mi.zero hS5 rfl id rfl hidl (.int .i64 1) (by rw [hF]; rfl) ?_))
            go_roundw
            case rel => exact ⟨1, by omega, by go_num, trivial⟩
            case measure => simp [intOf]; omega
          | succ i =>
            obtain ⟨b', off', e', hc'⟩ := hu.at' (k := i) (by omega)
            cases e'
            have hlt2 := HL.out i hjl
            rw [hid] at hlt2
            generalize l2.getD i 0 = z at hc' hlt2
            have HID := Lib.hid hid
            clear hid
            have dz : decide ((id : Int) ≤ z) = false := by rw [decide_eq_false_iff_not]; omega
            have hi0 : ¬ ((i : Int) < 0) := by omega
            have hil : decide (i < l2.length) = true := by simp; omega
            have hi1 : decide (0 < (i : Int) + 1) = true := by rw [decide_eq_true_eq]; omega
            clear hlt2
            go_wp2_with (first
              | (at_lookup; refine wpList_ulook1 (M := intM) rfl _ _ _ rfl Mk.law Mk.u_u64k Mi.u_map Mi.zero hS5 rfl id rfl hidl (.int .i64 1) (by rw [hF]; rfl) ?_))
            go_roundw
            case rel => exact ⟨i + 1 + 1, by omega, by go_num, trivial⟩
            case measure => simp [intOf]; omega
        · obtain rfl : j = l2.length := by omega
          go_wp2_with (first
            | (at_len; refine wpList_ulen (M := intM) rfl _ _ rfl Mi.u_map hS5 rfl ?_))
          go_ret
          exact ⟨by simp, hOe⟩
theorem walk_MachineMany {w : World} (x : List Int × Option Addr × Nat) (hx : U64In w x.2.1 x.1) :
    Calls Try.prog 3 #[.slice x.2.1 x.1.length x.2.2] w fun e w' => e = .returned (.bool true) ∧ Below w.heap.size w w' :=
  (many_at w x.2.1 x.2.2 x.1 hx).mono (fun _ _ h => ⟨h.1, h.2.below (Nat.le_refl _) (fun _ h => h.elim)⟩)
end Go.Proofs.Ytogeeeigfhmpmaa
