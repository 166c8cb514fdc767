/- One unit of time more. -/
import Derived.Test.YtklpdkojffaiiaaWheelP
import Derived.Test.YtklpdkojffaiiaaSortT
import Derived.Test.YtklpdkojffaiiaaStop
import Derived.Test.YtklpdkojffaiiaaPut
import Derived.Test.YtklpdkojffaiiaaInts
import Derived.BigRegion
namespace Go.Proofs.Ytklpdkojffaiiaa
open Go.RowKit Go.Shelf
set_option maxRecDepth 100000

namespace Wh
section
variable {w w' : World} {base p r0 r1 r2 : Nat} {X : Nat → Prop} {M : Wl}
/-- what touches only blocks that are not the wheel's keeps it -/
theorem WheelAt.keepsX (h : WheelAt w base X p r0 r1 r2 M) (ho : Only X w w') : WheelAt w' base X p r0 r1 r2 M := by
  obtain ⟨⟨c, h1, h1'⟩, ⟨c0, h2, h2'⟩, ⟨c1, h3, h3'⟩, ⟨c2, h4, h4'⟩, h5, h6, h7, h8, h9, h10, hx, hl, V, h11, h12, h13⟩ := h
  have k1 := h1.keeps ho hx.1
  have k2 := h2.keeps ho hx.2.1
  have k3 := h3.keeps ho hx.2.2.1
  have k4 := h4.keeps ho hx.2.2.2
  have cp : ∀ i, w'.cell? ⟨p, i, none⟩ = w.cell? ⟨p, i, none⟩ := fun i => by rw [h1.cell, k1.cell]
  have e0 : ∀ i, w'.cell? ⟨r0, i, none⟩ = w.cell? ⟨r0, i, none⟩ := fun i => by rw [h2.cell, k2.cell]
  have e1 : ∀ i, w'.cell? ⟨r1, i, none⟩ = w.cell? ⟨r1, i, none⟩ := fun i => by rw [h3.cell, k3.cell]
  have e2 : ∀ i, w'.cell? ⟨r2, i, none⟩ = w.cell? ⟨r2, i, none⟩ := fun i => by rw [h4.cell, k4.cell]
  have cl : ∀ q, w'.cell? (loc p r0 r1 r2 q) = w.cell? (loc p r0 r1 r2 q) := fun q => by
    unfold loc
    split
    · exact e0 _
    split
    · exact e1 _
    split
    · exact e2 _
    · exact cp _
  exact ⟨⟨c, k1, h1'⟩, ⟨_, k2, h2'⟩, ⟨_, k3, h3'⟩, ⟨_, k4, h4'⟩, h5, h6, by rw [cp, h7], by rw [cp, h8], ⟨by rw [cp, h9.1], by rw [cp, h9.2.1], by rw [cp, h9.2.2]⟩, by rw [cp, h10], hx, fun b hb => Nat.lt_of_lt_of_le (hl b hb) ho.size, V, fun q hq => ⟨by rw [cl, (h11 q hq).1], (h11 q hq).2.keeps ho (h13 q hq)⟩, h12, h13⟩
/-- blocks that are younger are not the wheel's -/
theorem WheelAt.more {Y : Nat → Prop} (h : WheelAt w base X p r0 r1 r2 M) (ho : Only NoBlock w w') (hy : ∀ b, Y b → w.heap.size ≤ b ∧ b < w'.heap.size) : WheelAt w' base (fun b => X b ∨ Y b) p r0 r1 r2 M := by
  have h' := h.keeps ho
  obtain ⟨V, hV⟩ := h.ex
  have l1 : p < w.heap.size := by obtain ⟨c, hb, _⟩ := h.bp; exact hb.lt
  have l2 : r0 < w.heap.size := by obtain ⟨c, hb, _⟩ := h.b0; exact hb.lt
  have l3 : r1 < w.heap.size := by obtain ⟨c, hb, _⟩ := h.b1; exact hb.lt
  have l4 : r2 < w.heap.size := by obtain ⟨c, hb, _⟩ := h.b2; exact hb.lt
  have no : ∀ {b}, b < w.heap.size → Y b → False := fun hb hY => by have := (hy _ hY).1; omega
  exact { h' with px := ⟨fun e => e.elim h.px.1 (no l1), fun e => e.elim h.px.2.1 (no l2), fun e => e.elim h.px.2.2.1 (no l3), fun e => e.elim h.px.2.2.2 (no l4)⟩, xlt := fun b e => e.elim (h'.xlt b) (fun e => (hy b e).2), ex := ⟨V, (hV.keeps ho).at_, hV.two, fun q hq b e hx => hx.elim (hV.out q hq b e) (no ((hV.at_ q hq).2.lt b e).2)⟩ }
end
theorem ring_free {w : World} {base p r0 r1 r2 : Nat} {X : Nat → Prop} {M : Wl} (h : WheelAt w base X p r0 r1 r2 M) (q : Nat) : w.frozen? (loc p r0 r1 r2 q) = false := h.free_loc q
theorem _root_.Go.Proofs.Ytklpdkojffaiiaa.Ints.less {w : World} {b b' : Nat} {v : Value} {l : List Int} (h : Ints w b' v l) (hb : b ≤ b') : Ints w b v l := by
  refine ⟨h.1, ?_⟩
  rcases h.2 with h2 | ⟨g, cap, cur, e, h3, r⟩
  · exact .inl h2
  · exact .inr ⟨g, cap, cur, e, by omega, r⟩
/-- where a tick stands when ring i is to be looked at -/
def TickSt (w : World) (base p r0 r1 r2 : Nat) (X Y : Nat → Prop) (M : Wl) (N S : Nat) (i : Int) (W : World) : Prop :=
  ∃ Mi, Mid N i M Mi ∧ WheelAt W base Y p r0 r1 r2 Mi ∧ Blk W S #[.int .u64 0, .int .u64 6, .int .u64 13, .int .u64 21] 55 ∧ Only (fun k => base ≤ k ∧ ¬ X k) w W
end Wh
set_option maxHeartbeats 4000000 in
theorem tick_at (w : World) (base p r0 r1 r2 : Nat) (X : Nat → Prop) (M : Wh.Wl) (h : Wh.WheelAt w base X p r0 r1 r2 M) (hp : ∀ q, q < 449 → ∀ t ∈ M.L q, M.now < t.due ∧ Wh.place M.now t.due = q) (hsz : M.all.length ≤ 1000) (hnow : M.now < 4611686018427387904) (hn0 : -1000000 ≤ M.n) (hn1 : M.n ≤ 1000000) :
    Calls Try.prog 12 #[.pointer (some ⟨p, 0, none⟩)] w fun e w' => ∃ (M2 : Wh.Wl) (l : List Wh.Tm) (v : Value), e = .returned v ∧ Wh.Mid (M.now + 1) (-1) M M2 ∧ l.Perm (M2.L ((M.now + 1) % 64)) ∧ l.Pairwise (fun x y => x.turn ≤ y.turn) ∧ Ints w' w.heap.size v (l.map (·.id)) ∧
      Wh.WheelAt w' base (fun b => X b ∨ v.ownBlock = some b) p r0 r1 r2 { M2.upd ((M.now + 1) % 64) [] with n := M2.n - l.length } ∧ Only (fun k => base ≤ k ∧ ¬ X k) w w' := by
  have hmid := Wh.Mid.begin hp
  have hs0 := h.setNow (M.now + 1)
  obtain ⟨N, hN⟩ : ∃ N, M.now + 1 = N := ⟨_, rfl⟩
  have hN1 : N < 4611686018427387905 := by omega
  have hinc : IntKind.u64.wrap ((M.now : Int) + 1) = (N : Int) := by rw [IntKind.wrap_u64]; omega
  rw [hN] at hmid hs0 ⊢
  have HP := Lib.hid hp
  have HN := Lib.hid hN
  have hc0 := h.now
  have hf0 := Wh.p_free h 0
  clear hp hN
  go_enter Try.func12, Try.ntmps12
  go_upto_region 4 with fail
  obtain ⟨hs1, hs2⟩ := hs0
  generalize World.setCell w ⟨p, 0, none⟩ (.int .u64 N) = w1 at hs1 hs2 ⊢
  clear hc0 hf0 hinc
  go_wp2_with fail
  refine (shifts_at w1).mono ?_
  rintro e w2 ⟨rfl, hO2⟩
  have hO3 := hO2.alloc (Obj.cells #[.int .u64 0, .int .u64 6, .int .u64 13, .int .u64 21] 55)
  have cs := Blk.made w2 #[.int .u64 0, .int .u64 6, .int .u64 13, .int .u64 21] 55
  unfold Wh.sh
  go_upto_region 5 with fail
  obtain ⟨S, hS⟩ : ∃ S, w2.heap.size = S := ⟨_, rfl⟩
  rw [hS] at cs ⊢
  have hO4 := (Only.refl NoBlock w2).alloc (Obj.cells #[.int .u64 0, .int .u64 6, .int .u64 13, .int .u64 21] 55)
  generalize w2.alloc (Obj.cells #[.int .u64 0, .int .u64 6, .int .u64 13, .int .u64 21] 55) = w3 at hO3 hO4 cs ⊢
  obtain ⟨Y, hY⟩ : ∃ Y : Nat → Prop, (fun b => X b ∨ b = S) = Y := ⟨_, rfl⟩
  have hXY : ∀ b, X b → Y b := fun b hb => by rw [← hY]; exact .inl hb
  have hYS : Y S := by rw [← hY]; exact .inr rfl
  have hw3 : Wh.WheelAt w3 base Y p r0 r1 r2 { M with now := N } := by rw [← hY]; exact (hs1.keeps hO2).more hO4 (fun b e => by subst e; exact ⟨by omega, cs.lt⟩)
  have hO := hs2.trans hO3.of_no
  have hSl : w.heap.size ≤ S := by have := hs2.size; have := hO2.size; omega
  have hst : Wh.TickSt w base p r0 r1 r2 X Y M N S 2 w3 := ⟨_, hmid, hw3, cs, hO⟩
  clear hmid hs1 hs2 hO2 hO3 hO4 hw3 hO cs hS hY
  go_wp2_with fail
  go_loopw [4] (fun u4 wr => ∃ i : Int, -1 ≤ i ∧ i ≤ 2 ∧ u4 = .int .i64 i ∧ Wh.TickSt w base p r0 r1 r2 X Y M N S i wr) (fun u4 _ => (intOf u4 + 1).toNat)
  case atStart => exact ⟨2, by omega, by omega, rfl, hst⟩
  case round =>
    obtain ⟨i, hi0, hi1, rfl, hst⟩ := hrel
    have hcase : i = 2 ∨ i = 1 ∨ i = 0 ∨ i = -1 := by omega
    rcases hcase with rfl | rfl | rfl | rfl
    -- ROUNDS
    · obtain ⟨Mi, hmi, hw, cs, hO⟩ := hst
      have c0 := hw.now
      rw [hmi.now] at c0
      have s3 : wr.cell? ⟨S, 3, none⟩ = some (.int .u64 21) := by rw [cs.cell]; rfl
      obtain ⟨k, hk⟩ : ∃ k, N % 2097152 = k := ⟨_, rfl⟩
      have hm : bits .and .u64 (N : Int) 2097151 = (k : Int) := by have := Wh.mask (x := N) 21 (by decide) (by omega); rw [← hk]; simpa using this
      by_cases hd : k = 0
      · subst hd
        have HK := Lib.hid hk
        have hm : bits .and .u64 (N : Int) 2097151 = 0 := hm
        clear hk
        obtain ⟨V, hV⟩ := hw.ex
        have hql : 448 < 449 := by omega
        obtain ⟨hc, hT⟩ := hV.at_ (448) hql
        change wr.cell? ⟨p, 5, none⟩ = _ at hc
        obtain ⟨ao, cap, hv⟩ := hT.shape
        have htk := hw.take hV hql
        change Wh.WheelAt (wr.setCell ⟨p, 5, none⟩ _) _ _ _ _ _ _ _ ∧ Wh.Tms (wr.setCell ⟨p, 5, none⟩ _) _ _ _ ∧ Only _ _ (wr.setCell ⟨p, 5, none⟩ _) at htk
        rw [hv] at hc hT htk
        have hfr := Wh.p_free hw 5
        skip
        have hpS : p ≠ S := fun e => hw.px.1 (e ▸ hYS)
        have HV := Lib.hid hV
        have HVV := Lib.hid hv
        clear hV hv
        go_upto_region 8 with fail
        go_region
        go_upto_region 14 with fail
        obtain ⟨hwt, hTt, hOt⟩ := htk
        have hwt := hwt.keeps (Only.refl NoBlock _).drew
        have hTt := hTt.keeps (Only.refl NoBlock _).drew (fun _ _ h => h)
        have hOt := hOt.drew
        have cst := (cs.setCell_other (p := ⟨p, 5, none⟩) (fun e => hpS e.symm) (.slice none 0 0)).drew
        generalize (World.setCell wr ⟨p, 5, none⟩ (.slice none 0 0)).drew = w4 at hwt hTt hOt cst ⊢
        have hdn := Wh.Down.start (i := 2) hql hmi (fun q hq hp => by unfold Wh.pend at hp ⊢; omega)
        have hlc : (Mi.L (448)).length ≤ 1000 := by have := Wh.len_le_all Mi hql; have := hmi.perm.length_eq; omega
        obtain ⟨L, hL⟩ : ∃ L, Mi.L (448) = L := ⟨_, rfl⟩
        rw [hL] at hwt hTt hdn hlc ⊢
        have hO4 := hO.trans (hOt.mono (fun k e => ⟨e.1, fun h => e.2 (hXY _ h)⟩))
        obtain ⟨M4, hM4⟩ : ∃ M4, Mi.upd (448) [] = M4 := ⟨_, rfl⟩
        rw [hM4] at hwt hdn
        clear hm c0 s3 hc hT hfr hw hmi cs hO hOt hL hM4 HV HVV
        go_wp2_with fail
        go_loopw [90] (fun u90 wr => ∃ j : Nat, j ≤ L.length ∧ u90 = .int .i64 j ∧ ∃ Mk, Wh.Down N (2 - 1) M L j Mk ∧ Wh.WheelAt wr base (fun b => Y b ∨ (Value.slice ao L.length cap).ownBlock = some b) p r0 r1 r2 Mk ∧ Only (fun k => base ≤ k ∧ ¬ (Y k ∨ (Value.slice ao L.length cap).ownBlock = some k)) w4 wr) (fun u90 _ => L.length - (intOf u90).toNat)
        case atStart => exact ⟨0, by omega, rfl, _, hdn, hwt, Only.refl _ _⟩
        case round =>
          obtain ⟨j, hj, rfl, Mk, hdk, hwk, hOk⟩ := hrel
          have hTk := hTt.keeps hOk (fun b e h => h.2 (.inr e))
          by_cases hlt : j < L.length
          · obtain ⟨g, rfl, c0, c1, c2⟩ := hTk.cell hlt
            have hA := (Only.refl NoBlock wr).alloc (Obj.cells #[.int .i64 (L.getD j Wh.Tm.zero).id, .int .u64 (L.getD j Wh.Tm.zero).due, .int .i64 (L.getD j Wh.Tm.zero).turn] 53)
            have hmem : L.getD j Wh.Tm.zero ∈ L := by rw [List.getD_eq_getElem?_getD, List.getElem?_eq_getElem hlt]; exact List.getElem_mem hlt
            have hwf := hTk.2.1 _ hmem
            have hstep := hdk.step hlt
            have hput := put_at _ base _ p r0 r1 r2 Mk (hwk.keeps hA) (L.getD j Wh.Tm.zero) hwf (by rw [hdk.now]; omega) (by have := hdk.room (Wh.place_lt Mk.now (L.getD j Wh.Tm.zero).due); omega)
            rw [hdk.now] at hput
            obtain ⟨t, ht⟩ : ∃ t, L.getD j Wh.Tm.zero = t := ⟨_, rfl⟩
            rw [ht] at c0 c1 c2 hA hput hstep
            clear ht hwf hmem hdk
            obtain ⟨ti, td, tt⟩ := t
            simp only at c0 c1 c2 hA hput
            go_wp2_with (first | (go_at_call 23; refine hput.mono ?_; rintro e wn ⟨⟨v, rfl⟩, hn1, hn2⟩))
            go_roundw
            case rel =>
              have hOn := hOk.trans (hA.of_no.trans hn2)
              first
                | exact ⟨j + 1, by omega, by go_num, _, hstep, hn1, hOn⟩
                | ((repeat apply Exists.intro); exact ⟨⟨j + 1, by omega, by go_num, _, hstep, hn1, hOn⟩, rfl⟩)
            case measure => simp [intOf]; omega
          · obtain rfl : j = L.length := by omega
            have hfin : Wh.TickSt w base p r0 r1 r2 X Y M N S (2 - 1) wr := ⟨Mk, hdk.done, hwk.less (fun b e => .inl e), cst.keeps hOk (fun e => e.2 (.inl hYS)), hO4.trans (hOk.mono (fun k e => ⟨e.1, fun h => e.2 (.inl (hXY _ h))⟩))⟩
            clear hTk hOk hwk hdk
            go_wp2_with fail
            go_roundw
            case rel => exact ⟨2 - 1, by omega, by omega, rfl, hfin⟩
            case measure => simp [intOf]
      · have hd1 : ((k : Int) != 0) = true := by simpa using hd
        have HK := Lib.hid hk
        have HD := Lib.hid hd
        clear hk hd
        go_upto_region 8 with fail
        go_region
        have hfin : Wh.TickSt w base p r0 r1 r2 X Y M N S (2 - 1) wr.drew := ⟨Mi, hmi.skip (fun q hq => by have := HK.out; have := HD.out; unfold Wh.pend at hq ⊢; omega), hw.keeps ((Only.refl NoBlock wr).drew), cs.drew, hO.drew⟩
        generalize wr.drew = w9 at hfin ⊢
        clear hm hd1 c0 s3
        go_wp2_with fail
        go_roundw
        case rel => exact ⟨2 - 1, by omega, by omega, rfl, hfin⟩
        case measure => simp [intOf]
    · obtain ⟨Mi, hmi, hw, cs, hO⟩ := hst
      have c0 := hw.now
      rw [hmi.now] at c0
      have s3 : wr.cell? ⟨S, 2, none⟩ = some (.int .u64 13) := by rw [cs.cell]; rfl
      obtain ⟨k, hk⟩ : ∃ k, N % 8192 = k := ⟨_, rfl⟩
      have hm : bits .and .u64 (N : Int) 8191 = (k : Int) := by have := Wh.mask (x := N) 13 (by decide) (by omega); rw [← hk]; simpa using this
      by_cases hd : k = 0
      · subst hd
        have HK := Lib.hid hk
        have hm : bits .and .u64 (N : Int) 8191 = 0 := hm
        clear hk
        obtain ⟨kk, hkk⟩ : ∃ kk, N / 8192 % 256 = kk := ⟨_, rfl⟩
        have hkl : kk < 256 := by omega
        have hm2 : bits .and .u64 ((N : Int) / 8192) 255 = (kk : Int) := by have := Wh.mask (x := N / 8192) 8 (by decide) (by omega); rw [← hkk]; simpa using this
        have HKK := Lib.hid hkk
        clear hkk
        obtain ⟨g0, g1, g2⟩ := hw.rg
        have hki : (kk : Int) < 256 := by omega
        obtain ⟨V, hV⟩ := hw.ex
        have hql : 192 + kk < 449 := by omega
        obtain ⟨hc, hT⟩ := hV.at_ (192 + kk) hql
        rw [Wh.loc2 hkl] at hc
        obtain ⟨ao, cap, hv⟩ := hT.shape
        have htk := hw.take hV hql
        rw [Wh.loc2 hkl] at htk
        rw [hv] at hc hT htk
        have hfr := Wh.ring_free hw (192 + kk)
        rw [Wh.loc2 hkl] at hfr
        have hpS : r2 ≠ S := fun e => hw.px.2.2.2 (e ▸ hYS)
        have HV := Lib.hid hV
        have HVV := Lib.hid hv
        clear hV hv
        go_upto_region 8 with fail
        go_region
        go_upto_region 12 with fail
        go_region
        go_upto_region 13 with fail
        go_region
        obtain ⟨hwt, hTt, hOt⟩ := htk
        have hwt := hwt.keeps (Only.refl NoBlock _).drew.drew.drew
        have hTt := hTt.keeps (Only.refl NoBlock _).drew.drew.drew (fun _ _ h => h)
        have hOt := hOt.drew.drew.drew
        have cst := (cs.setCell_other (p := ⟨r2, kk, none⟩) (fun e => hpS e.symm) (.slice none 0 0)).drew.drew.drew
        generalize (World.setCell wr ⟨r2, kk, none⟩ (.slice none 0 0)).drew.drew.drew = w4 at hwt hTt hOt cst ⊢
        have hdn := Wh.Down.start (i := 1) hql hmi (fun q hq hp => by have := HKK.out; unfold Wh.pend at hp ⊢; omega)
        have hlc : (Mi.L (192 + kk)).length ≤ 1000 := by have := Wh.len_le_all Mi hql; have := hmi.perm.length_eq; omega
        obtain ⟨L, hL⟩ : ∃ L, Mi.L (192 + kk) = L := ⟨_, rfl⟩
        rw [hL] at hwt hTt hdn hlc ⊢
        have hO4 := hO.trans (hOt.mono (fun k e => ⟨e.1, fun h => e.2 (hXY _ h)⟩))
        obtain ⟨M4, hM4⟩ : ∃ M4, Mi.upd (192 + kk) [] = M4 := ⟨_, rfl⟩
        rw [hM4] at hwt hdn
        clear hm c0 s3 hc hT hfr hw hmi cs hO hOt hL hM4 HV HVV
        go_wp2_with fail
        go_loopw [90] (fun u90 wr => ∃ j : Nat, j ≤ L.length ∧ u90 = .int .i64 j ∧ ∃ Mk, Wh.Down N (1 - 1) M L j Mk ∧ Wh.WheelAt wr base (fun b => Y b ∨ (Value.slice ao L.length cap).ownBlock = some b) p r0 r1 r2 Mk ∧ Only (fun k => base ≤ k ∧ ¬ (Y k ∨ (Value.slice ao L.length cap).ownBlock = some k)) w4 wr) (fun u90 _ => L.length - (intOf u90).toNat)
        case atStart => exact ⟨0, by omega, rfl, _, hdn, hwt, Only.refl _ _⟩
        case round =>
          obtain ⟨j, hj, rfl, Mk, hdk, hwk, hOk⟩ := hrel
          have hTk := hTt.keeps hOk (fun b e h => h.2 (.inr e))
          by_cases hlt : j < L.length
          · obtain ⟨g, rfl, c0, c1, c2⟩ := hTk.cell hlt
            have hA := (Only.refl NoBlock wr).alloc (Obj.cells #[.int .i64 (L.getD j Wh.Tm.zero).id, .int .u64 (L.getD j Wh.Tm.zero).due, .int .i64 (L.getD j Wh.Tm.zero).turn] 53)
            have hmem : L.getD j Wh.Tm.zero ∈ L := by rw [List.getD_eq_getElem?_getD, List.getElem?_eq_getElem hlt]; exact List.getElem_mem hlt
            have hwf := hTk.2.1 _ hmem
            have hstep := hdk.step hlt
            have hput := put_at _ base _ p r0 r1 r2 Mk (hwk.keeps hA) (L.getD j Wh.Tm.zero) hwf (by rw [hdk.now]; omega) (by have := hdk.room (Wh.place_lt Mk.now (L.getD j Wh.Tm.zero).due); omega)
            rw [hdk.now] at hput
            obtain ⟨t, ht⟩ : ∃ t, L.getD j Wh.Tm.zero = t := ⟨_, rfl⟩
            rw [ht] at c0 c1 c2 hA hput hstep
            clear ht hwf hmem hdk
            obtain ⟨ti, td, tt⟩ := t
            simp only at c0 c1 c2 hA hput
            go_wp2_with (first | (go_at_call 23; refine hput.mono ?_; rintro e wn ⟨⟨v, rfl⟩, hn1, hn2⟩))
            go_roundw
            case rel =>
              have hOn := hOk.trans (hA.of_no.trans hn2)
              first
                | exact ⟨j + 1, by omega, by go_num, _, hstep, hn1, hOn⟩
                | ((repeat apply Exists.intro); exact ⟨⟨j + 1, by omega, by go_num, _, hstep, hn1, hOn⟩, rfl⟩)
            case measure => simp [intOf]; omega
          · obtain rfl : j = L.length := by omega
            have hfin : Wh.TickSt w base p r0 r1 r2 X Y M N S (1 - 1) wr := ⟨Mk, hdk.done, hwk.less (fun b e => .inl e), cst.keeps hOk (fun e => e.2 (.inl hYS)), hO4.trans (hOk.mono (fun k e => ⟨e.1, fun h => e.2 (.inl (hXY _ h))⟩))⟩
            clear hTk hOk hwk hdk
            go_wp2_with fail
            go_roundw
            case rel => exact ⟨1 - 1, by omega, by omega, rfl, hfin⟩
            case measure => simp [intOf]
      · have hd1 : ((k : Int) != 0) = true := by simpa using hd
        have HK := Lib.hid hk
        have HD := Lib.hid hd
        clear hk hd
        go_upto_region 8 with fail
        go_region
        have hfin : Wh.TickSt w base p r0 r1 r2 X Y M N S (1 - 1) wr.drew := ⟨Mi, hmi.skip (fun q hq => by have := HK.out; have := HD.out; unfold Wh.pend at hq ⊢; omega), hw.keeps ((Only.refl NoBlock wr).drew), cs.drew, hO.drew⟩
        generalize wr.drew = w9 at hfin ⊢
        clear hm hd1 c0 s3
        go_wp2_with fail
        go_roundw
        case rel => exact ⟨1 - 1, by omega, by omega, rfl, hfin⟩
        case measure => simp [intOf]
    · obtain ⟨Mi, hmi, hw, cs, hO⟩ := hst
      have c0 := hw.now
      rw [hmi.now] at c0
      have s3 : wr.cell? ⟨S, 1, none⟩ = some (.int .u64 6) := by rw [cs.cell]; rfl
      obtain ⟨k, hk⟩ : ∃ k, N % 64 = k := ⟨_, rfl⟩
      have hm : bits .and .u64 (N : Int) 63 = (k : Int) := by have := Wh.mask (x := N) 6 (by decide) (by omega); rw [← hk]; simpa using this
      by_cases hd : k = 0
      · subst hd
        have HK := Lib.hid hk
        have hm : bits .and .u64 (N : Int) 63 = 0 := hm
        clear hk
        obtain ⟨kk, hkk⟩ : ∃ kk, N / 64 % 128 = kk := ⟨_, rfl⟩
        have hkl : kk < 128 := by omega
        have hm2 : bits .and .u64 ((N : Int) / 64) 127 = (kk : Int) := by have := Wh.mask (x := N / 64) 7 (by decide) (by omega); rw [← hkk]; simpa using this
        have HKK := Lib.hid hkk
        clear hkk
        obtain ⟨g0, g1, g2⟩ := hw.rg
        have hki : (kk : Int) < 128 := by omega
        obtain ⟨V, hV⟩ := hw.ex
        have hql : 64 + kk < 449 := by omega
        obtain ⟨hc, hT⟩ := hV.at_ (64 + kk) hql
        rw [Wh.loc1 hkl] at hc
        obtain ⟨ao, cap, hv⟩ := hT.shape
        have htk := hw.take hV hql
        rw [Wh.loc1 hkl] at htk
        rw [hv] at hc hT htk
        have hfr := Wh.ring_free hw (64 + kk)
        rw [Wh.loc1 hkl] at hfr
        have hpS : r1 ≠ S := fun e => hw.px.2.2.1 (e ▸ hYS)
        have HV := Lib.hid hV
        have HVV := Lib.hid hv
        clear hV hv
        go_upto_region 8 with fail
        go_region
        go_upto_region 12 with fail
        go_region
        go_upto_region 13 with fail
        go_region
        obtain ⟨hwt, hTt, hOt⟩ := htk
        have hwt := hwt.keeps (Only.refl NoBlock _).drew.drew.drew
        have hTt := hTt.keeps (Only.refl NoBlock _).drew.drew.drew (fun _ _ h => h)
        have hOt := hOt.drew.drew.drew
        have cst := (cs.setCell_other (p := ⟨r1, kk, none⟩) (fun e => hpS e.symm) (.slice none 0 0)).drew.drew.drew
        generalize (World.setCell wr ⟨r1, kk, none⟩ (.slice none 0 0)).drew.drew.drew = w4 at hwt hTt hOt cst ⊢
        have hdn := Wh.Down.start (i := 0) hql hmi (fun q hq hp => by have := HKK.out; unfold Wh.pend at hp ⊢; omega)
        have hlc : (Mi.L (64 + kk)).length ≤ 1000 := by have := Wh.len_le_all Mi hql; have := hmi.perm.length_eq; omega
        obtain ⟨L, hL⟩ : ∃ L, Mi.L (64 + kk) = L := ⟨_, rfl⟩
        rw [hL] at hwt hTt hdn hlc ⊢
        have hO4 := hO.trans (hOt.mono (fun k e => ⟨e.1, fun h => e.2 (hXY _ h)⟩))
        obtain ⟨M4, hM4⟩ : ∃ M4, Mi.upd (64 + kk) [] = M4 := ⟨_, rfl⟩
        rw [hM4] at hwt hdn
        clear hm c0 s3 hc hT hfr hw hmi cs hO hOt hL hM4 HV HVV
        go_wp2_with fail
        go_loopw [90] (fun u90 wr => ∃ j : Nat, j ≤ L.length ∧ u90 = .int .i64 j ∧ ∃ Mk, Wh.Down N (0 - 1) M L j Mk ∧ Wh.WheelAt wr base (fun b => Y b ∨ (Value.slice ao L.length cap).ownBlock = some b) p r0 r1 r2 Mk ∧ Only (fun k => base ≤ k ∧ ¬ (Y k ∨ (Value.slice ao L.length cap).ownBlock = some k)) w4 wr) (fun u90 _ => L.length - (intOf u90).toNat)
        case atStart => exact ⟨0, by omega, rfl, _, hdn, hwt, Only.refl _ _⟩
        case round =>
          obtain ⟨j, hj, rfl, Mk, hdk, hwk, hOk⟩ := hrel
          have hTk := hTt.keeps hOk (fun b e h => h.2 (.inr e))
          by_cases hlt : j < L.length
          · obtain ⟨g, rfl, c0, c1, c2⟩ := hTk.cell hlt
            have hA := (Only.refl NoBlock wr).alloc (Obj.cells #[.int .i64 (L.getD j Wh.Tm.zero).id, .int .u64 (L.getD j Wh.Tm.zero).due, .int .i64 (L.getD j Wh.Tm.zero).turn] 53)
            have hmem : L.getD j Wh.Tm.zero ∈ L := by rw [List.getD_eq_getElem?_getD, List.getElem?_eq_getElem hlt]; exact List.getElem_mem hlt
            have hwf := hTk.2.1 _ hmem
            have hstep := hdk.step hlt
            have hput := put_at _ base _ p r0 r1 r2 Mk (hwk.keeps hA) (L.getD j Wh.Tm.zero) hwf (by rw [hdk.now]; omega) (by have := hdk.room (Wh.place_lt Mk.now (L.getD j Wh.Tm.zero).due); omega)
            rw [hdk.now] at hput
            obtain ⟨t, ht⟩ : ∃ t, L.getD j Wh.Tm.zero = t := ⟨_, rfl⟩
            rw [ht] at c0 c1 c2 hA hput hstep
            clear ht hwf hmem hdk
            obtain ⟨ti, td, tt⟩ := t
            simp only at c0 c1 c2 hA hput
            go_wp2_with (first | (go_at_call 23; refine hput.mono ?_; rintro e wn ⟨⟨v, rfl⟩, hn1, hn2⟩))
            go_roundw
            case rel =>
              have hOn := hOk.trans (hA.of_no.trans hn2)
              first
                | exact ⟨j + 1, by omega, by go_num, _, hstep, hn1, hOn⟩
                | ((repeat apply Exists.intro); exact ⟨⟨j + 1, by omega, by go_num, _, hstep, hn1, hOn⟩, rfl⟩)
            case measure => simp [intOf]; omega
          · obtain rfl : j = L.length := by omega
            have hfin : Wh.TickSt w base p r0 r1 r2 X Y M N S (0 - 1) wr := ⟨Mk, hdk.done, hwk.less (fun b e => .inl e), cst.keeps hOk (fun e => e.2 (.inl hYS)), hO4.trans (hOk.mono (fun k e => ⟨e.1, fun h => e.2 (.inl (hXY _ h))⟩))⟩
            clear hTk hOk hwk hdk
            go_wp2_with fail
            go_roundw
            case rel => exact ⟨0 - 1, by omega, by omega, rfl, hfin⟩
            case measure => simp [intOf]
      · have hd1 : ((k : Int) != 0) = true := by simpa using hd
        have HK := Lib.hid hk
        have HD := Lib.hid hd
        clear hk hd
        go_upto_region 8 with fail
        go_region
        have hfin : Wh.TickSt w base p r0 r1 r2 X Y M N S (0 - 1) wr.drew := ⟨Mi, hmi.skip (fun q hq => by have := HK.out; have := HD.out; unfold Wh.pend at hq ⊢; omega), hw.keeps ((Only.refl NoBlock wr).drew), cs.drew, hO.drew⟩
        generalize wr.drew = w9 at hfin ⊢
        clear hm hd1 c0 s3
        go_wp2_with fail
        go_roundw
        case rel => exact ⟨0 - 1, by omega, by omega, rfl, hfin⟩
        case measure => simp [intOf]
    -- END ROUNDS
    · obtain ⟨Mi, hmi, hw, cs, hO⟩ := hst
      have c0 := hw.now
      rw [hmi.now] at c0
      obtain ⟨kk, hkk⟩ : ∃ kk, N % 64 = kk := ⟨_, rfl⟩
      have hkl : kk < 64 := by omega
      have hki : (kk : Int) < 64 := by omega
      have hm : bits .and .u64 (N : Int) 63 = (kk : Int) := by have := Wh.mask (x := N) 6 (by decide) (by omega); rw [← hkk]; simpa using this
      have HKK := Lib.hid hkk
      clear hkk
      obtain ⟨g0, g1, g2⟩ := hw.rg
      obtain ⟨V, hV⟩ := hw.ex
      have hql : kk < 449 := by omega
      obtain ⟨hc, hT⟩ := hV.at_ kk hql
      rw [Wh.loc0 hkl] at hc
      obtain ⟨ao, cap, hv⟩ := hT.shape
      have hlc : (Mi.L kk).length ≤ 1000 := by have := Wh.len_le_all Mi hql; have := hmi.perm.length_eq; omega
      have hnl : Mi.n = M.n := hmi.n
      obtain ⟨L, hL⟩ : ∃ L, Mi.L kk = L := ⟨_, rfl⟩
      have hA := (Only.refl NoBlock wr).alloc (Obj.cells #[.slice ao L.length cap] 47)
      have cB := Blk.made wr #[.slice ao L.length cap] 47
      have htk := (hw.keeps hA).take (hV.keeps hA) hql
      have hf1 := (hw.keeps hA).free_loc kk
      have g0' := ((hw.keeps hA).rg).1
      rw [Wh.loc0 hkl] at htk hf1
      rw [hv, hL] at hc htk
      rw [hL] at hlc
      have hc1 := Wh.cell_same hA hc
      have hr0 : r0 < wr.heap.size := by obtain ⟨c, hb, _⟩ := hw.b0; exact hb.lt
      have hpl : p < wr.heap.size := by obtain ⟨c, hb, _⟩ := hw.bp; exact hb.lt
      have hsz7 : w.heap.size ≤ wr.heap.size := hO.size
      have hwout : ∀ b, (Value.slice ao L.length cap).ownBlock = some b → ¬ Y b := fun b e => hV.out kk hql b (by rw [hv, hL]; exact e)
      have HL := Lib.hid hL
      clear hV hv hL hT
      go_upto_region 21 with fail
      obtain ⟨B, hB⟩ : ∃ B, wr.heap.size = B := ⟨_, rfl⟩
      rw [hB] at cB hr0 hpl hsz7 ⊢
      generalize wr.alloc (Obj.cells #[.slice ao L.length cap] 47) = w4 at hA cB htk hf1 g0' hc1 ⊢
      clear c0 hm g0 g1 g2 hc
      go_upto_region 22 with fail
      obtain ⟨hwt, hTt, hOt⟩ := htk
      have cB5 := cB.setCell_other (p := ⟨r0, kk, none⟩) (by show B ≠ r0; omega) (.slice none 0 0)
      generalize World.setCell w4 ⟨r0, kk, none⟩ (.slice none 0 0) = w5 at hwt hTt hOt cB5 ⊢
      clear hf1 g0' hc1
      have cN := hwt.cnt
      simp only [Wh.Wl.upd] at cN
      rw [hnl] at cN
      have fN := Wh.p_free hwt 6
      have cb5 : w5.cell? ⟨B, 0, none⟩ = some (.slice ao L.length cap) := by rw [cB5.cell]; rfl
      have hwr : IntKind.i64.wrap (M.n - (L.length : Int)) = M.n - (L.length : Int) := IntWalk.i64_in _ (by omega)
      have hs6 := hwt.setN (M.n - (L.length : Int))
      have hpo : ∀ b, (Value.slice ao L.length cap).ownBlock = some b → b ≠ p := fun b e hb => hwt.px.1 (.inr (by rw [← hb]; exact e))
      have hT6 := hTt.keeps (S := fun k => k = p) (((Only.refl (fun k => k = p) w5).setCell (p := ⟨p, 6, none⟩) (fun _ => rfl) (.int .i64 (M.n - (L.length : Int))))) (fun b e h => hpo b e h)
      have cB6 := cB5.setCell_other (p := ⟨p, 6, none⟩) (by show B ≠ p; omega) (.int .i64 (M.n - (L.length : Int)))
      go_region
      have hw6 := hs6.1.keeps (Only.refl NoBlock _).drew
      have hT6 := hT6.keeps (Only.refl NoBlock _).drew (fun _ _ h => h)
      have cB6 := cB6.drew
      have hO6 := ((hO.trans hA.of_no).trans (((hOt.mono (fun k e => ⟨e.1, fun h => e.2 (hXY _ h)⟩)).trans (hs6.2.mono (fun k e => ⟨e.1, fun h => e.2 (.inl (hXY _ h))⟩))))).drew
      generalize (World.setCell w5 ⟨p, 6, none⟩ (.int .i64 (M.n - (L.length : Int)))).drew = w6 at hw6 hT6 cB6 hO6 ⊢
      clear hs6 hwt hTt hOt cB5 cN fN cb5 hwr hpo hO hA cB
      have cb6 : w6.cell? ⟨B, 0, none⟩ = some (.slice ao L.length cap) := by rw [cB6.cell]; rfl
      have hap := hT6.apart cB6 (by decide)
      have hsrt := sort_turns w6 base B cap ao L cb6 (fun g e hb => hap (by rw [e, hb]; rfl)) hT6
      go_upto_region 23 with fail
      go_wp2_with (first | (go_at_call 25; refine hsrt.mono ?_; rintro e w7 ⟨rfl, l, hl1, hl2, hl3, hl4⟩; have cb7 : w7.cell? ⟨B, 0, none⟩ = some (.slice ao L.length cap) := (by rw [(cB6.keeps hl4 hap).cell]; rfl)))
      have hll := hl1.length_eq
      have hw7 := hw6.keepsX (hl4.mono (fun k e => .inr e))
      have hO7 : Only (fun k => base ≤ k ∧ ¬ X k) w w7 := hO6.andThen hl4 (fun k hk e => ⟨(hT6.lt k e).1, fun hx => hwout k e (hXY _ hx)⟩)
      have hbig : w.heap.size ≤ w7.heap.size := hO7.size
      rw [← hll]
      have HLL := Lib.hid hll
      clear hsrt cb6 hO6 hw6 hT6 cB6 hap hll
      go_loopw [133, 11] (fun u133 u11 wr => ∃ j : Nat, j ≤ l.length ∧ u133 = .int .i64 j ∧ Ints wr w7.heap.size u11 ((l.take j).map (·.id)) ∧ Only NoBlock w7 wr) (fun u133 _ _ => l.length - (intOf u133).toNat)
      case atStart => exact ⟨0, by omega, rfl, Ints.nil' _ _, Only.refl _ _⟩
      case round =>
        obtain ⟨j, hj, rfl, hrow, ho⟩ := hrel
        have hRd := hl3.keeps ho (fun _ _ h => h)
        by_cases hlt : j < l.length
        · obtain ⟨g, rfl, c0, c1, c2⟩ := hRd j hlt
          have hA := (Only.refl NoBlock wr).alloc (Obj.cells #[.int .i64 (l.getD j Wh.Tm.zero).id, .int .u64 (l.getD j Wh.Tm.zero).due, .int .i64 (l.getD j Wh.Tm.zero).turn] 53)
          have hnx : (l.take (j + 1)).map (·.id) = (l.take j).map (·.id) ++ [(l.getD j Wh.Tm.zero).id] := by
            rw [List.take_succ_eq_append_getElem hlt, List.map_append, List.getD_eq_getElem?_getD, List.getElem?_eq_getElem hlt]; rfl
          obtain ⟨t, ht⟩ : ∃ t, l.getD j Wh.Tm.zero = t := ⟨_, rfl⟩
          rw [ht] at c0 c1 c2 hA hnx
          have hl64 : l.length ≤ 1000 := by rw [HLL.out]; exact hlc
          have hacc : ((l.take j).map (·.id)).length = j := by rw [List.length_map, List.length_take, Nat.min_eq_left hj]
          have HNX := Lib.hid hnx
          clear ht hnx
          obtain ⟨ti, td, tt⟩ := t
          simp only at c0 c1 c2 hA HNX
          obtain ⟨acc, hac⟩ : ∃ acc, (l.take j).map (·.id) = acc := ⟨_, rfl⟩
          rw [hac] at hrow hacc HNX
          clear hac
          have hwz := ho.size
          go_wp2_with (first
            | (at_builtin; refine wpList_append_int _ rfl _ _ rfl w7.heap.size _ acc ti ⟨wr.heap.size + 1, 0, none⟩ 1 rfl (hrow.keeps' (((Only.refl NoBlock _).alloc _).alloc _) (fun _ _ h => h)) rfl (cell_int _ _ _ _ (by simp)) (by omega) (by simp; omega) ?_; intro v' w3 hb3 hg3))
          go_roundw
          case rel =>
            have hO3 : Only NoBlock w7 w3 := (ho.trans (((Only.refl NoBlock wr).alloc _).alloc _)).grown hg3 (fun b e hb => by have := (hrow.lt b e).1; omega)
            rw [← HNX.out] at hb3
            first
              | exact ⟨j + 1, by omega, by go_num, hb3, hO3⟩
              | ((repeat apply Exists.intro); refine ⟨?_, rfl⟩; exact ⟨j + 1, by omega, by go_num, hb3, hO3⟩)
          case measure => simp [intOf]; omega
        · obtain rfl : j = l.length := by omega
          rw [List.take_length] at hrow
          go_wp2_with fail
          go_ret
          refine ⟨Mi, l, _, rfl, hmi, ?_, hl2, Ints.less hrow hbig, ?_, hO7.trans ho.of_no⟩
          · rw [HKK.out, HL.out]; exact hl1
          · have hm7 := (hw7.less (fun b e => .inl (hXY b e))).more ho (fun b e => hrow.lt b e)
            rw [HKK.out]
            have e1 : Mi.n - (l.length : Int) = M.n - (L.length : Int) := by rw [hmi.n, HLL.out]
            rw [e1]
            exact hm7
end Go.Proofs.Ytklpdkojffaiiaa
