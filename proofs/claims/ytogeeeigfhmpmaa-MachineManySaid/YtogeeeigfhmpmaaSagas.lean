/- machine.Machine's Sagas: the numbers of all, from the least up. -/
import Derived.Test.YtogeeeigfhmpmaaSortAsc
namespace Go.Proofs.Ytogeeeigfhmpmaa
open Go.RowKit
set_option maxRecDepth 100000

theorem ids_perm {acc ids : List Nat} (h1 : acc.Nodup) (h2 : ids.Pairwise (· < ·)) (h : ∀ x, x ∈ acc ↔ x ∈ ids) : acc.Perm ids := by
  refine (List.perm_ext_iff_of_nodup h1 ?_).2 h
  exact h2.imp (fun hlt e => by omega)
theorem ids_asc {ids : List Nat} (h : ids.Pairwise (· < ·)) : (ids.map (fun i : Nat => (i : Int))).Pairwise (· ≤ ·) := by
  rw [List.pairwise_map]
  exact h.imp (fun hlt => by omega)
theorem U64s.lower {w : World} {b b' : Nat} {v : Value} {l : List Int} (h : U64s w b v l) (hb : b' ≤ b) : U64s w b' v l := by
  refine ⟨h.1, ?_⟩
  rcases h.2 with h0 | ⟨g, cap, cur, h1, h2, h3⟩
  · exact .inl h0
  · exact .inr ⟨g, cap, cur, h1, Nat.le_trans hb h2, h3⟩
set_option maxHeartbeats 2000000 in
theorem sagas_at (w : World) (p tb mb : Nat) (v : Value) (m : Mc.Mach) (hM : MachAt w p tb mb v m) (hk : m.Ok) :
    Calls Try.prog 11 #[.pointer (some ⟨p, 0, none⟩)] w fun e w' => ∃ u, e = .returned u ∧ U64s w' w.heap.size u (m.ids.map (fun i : Nat => (i : Int))) ∧ Only NoBlock w w' := by
  obtain ⟨F, hm, hF⟩ := hM.sgs
  have hhas : ∀ x, (F x).isSome = true ↔ x ∈ m.ids := fun x => by
    rw [← hk.has x]
    rcases hF x with ⟨a, b⟩ | ⟨s, r, a, b, _⟩
    · rw [a, b]; simp
    · rw [a, b]; simp
  have HH := Lib.hid hhas
  have hlen := hk.len
  have hB0 := hM.blk
  clear hhas hF
  go_enter Try.func11, Try.ntmps11
  go_upto_region 4 with fail
  have hV := Blk.made w #[.slice none 0 0] 22
  have hO := (Only.refl NoBlock w).alloc (Obj.cells #[.slice none 0 0] 22)
  have hm1 := hm.keeps hO (fun h => h)
  have hP := hB0.keeps hO (fun h => h)
  have hsz : (w.alloc (Obj.cells #[.slice none 0 0] 22)).heap.size = w.heap.size + 1 := by simp
  generalize w.alloc (Obj.cells #[.slice none 0 0] 22) = w1 at hV hO hm1 hP hsz ⊢
  generalize hBe : w.heap.size = B at hV hsz ⊢
  have hB1 : B < w1.heap.size := by omega
  have hw0 : w.heap.size ≤ B := by omega
  have hmbB : mb ≠ B := fun e => hm1.ne_cells hV e
  have hmb1 : mb < w1.heap.size := hm1.lt
  clear hm hB0 hBe hsz
  have c1 := hP.cell 1
  simp only [List.getElem?_toArray, List.getElem?_cons_succ, List.getElem?_cons_zero] at c1
  go_wp2_with (first | (at_range; refine wpList_urange rfl _ _ rfl Mk.law Mk.u_map rfl hm1 ?_; intro w2 hg2 hO2 hs2) | go_in)
  go_frame
  have hV2 := hV.keeps hO2 (fun h => h)
  generalize hre : w1.heap.size = r at hg2 hs2 ⊢
  have hrB : r ≠ B := by omega
  have hBr1 : B < r := by omega
  have hmbr : mb < r := by omega
  have hr2 : r + 1 ≤ w2.heap.size := by omega
  have hO2' := hO.trans hO2
  clear hO hO2 hV hP c1 hm1 hre hs2
  go_loopw [] (fun wr => ∃ (L : Nat → Bool) (cnt : Nat) (acc : List Nat) (u : Value), UGoing sgM Try.prog 28 wr mb r F L cnt ∧ Blk wr B #[u] 22 ∧ U64s wr (r + 1) u (acc.map (fun i : Nat => (i : Int))) ∧ acc.length + cnt ≤ m.ids.length ∧ RowKit.Hid (acc.Nodup ∧ ∀ x, x ∈ acc ↔ ((F x).isSome = true ∧ L x = false)) ∧ Only NoBlock w wr)
    (fun wr => wr.rangeLeft mb r)
  case atStart => exact ⟨_, _, [], _, hg2, hV2, U64s.nil' _ _, by simp, Lib.hid ⟨List.nodup_nil, fun x => ⟨fun h => (by cases h), fun h => by rw [h.1] at h; exact absurd h.2 (by simp)⟩⟩, hO2'⟩
  case round =>
    obtain ⟨L, cnt, acc, u, hg, hV3, hu, hac, HA, hO3⟩ := hrel
    go_wp2_with (first
      | (at_next; refine wpList_unext rfl _ rfl Mk.law Mk.u_u64k rfl hg ?_ ?_)
      | go_in)
    · intro hL
      have hperm : RowKit.Hid (acc.Perm m.ids) := Lib.hid (ids_perm HA.out.1 hk.asc (fun x => by
        rw [HA.out.2 x, ← HH.out x]
        simp [hL x]))
      clear HA hL
      have hal : acc.length ≤ 16 := by omega
      have hll : (acc.map (fun i : Nat => (i : Int))).length = acc.length := List.length_map _
      generalize hml : acc.map (fun i : Nat => (i : Int)) = l at hu hll
      have HML := Lib.hid hml
      have hl16 : l.length ≤ 16 := by omega
      clear hml hll hal
      obtain ⟨ao, cap, rfl⟩ := hu.shape
      have c0 := hV3.cell 0
      simp only [List.getElem?_toArray, List.getElem?_cons_zero] at c0
      have hwB : ∀ g, (Value.slice ao l.length cap).ownBlock = some g → B ≠ g := fun g hg' e => by have := (World.ownsRow.lt hu g hg').1; omega
      go_wp2_with fail
      refine (sort_asc wr (r + 1) B cap ao l c0 hwB (by omega) hu).mono ?_
      rintro e w5 ⟨rfl, l', hp, hs, hu5, hO5⟩
      have hlp : l'.length = l.length := hp.length_eq
      have hV5 := hV3.keeps hO5 (fun e => hwB B e rfl)
      have c5 := hV5.cell 0
      simp only [List.getElem?_toArray, List.getElem?_cons_zero] at c5
      have HL : RowKit.Hid (l' = m.ids.map (fun i : Nat => (i : Int))) := Lib.hid (Sa.perm_sorted (hp.trans (by rw [← HML.out]; exact hperm.out.map _)) hs (ids_asc hk.asc))
      have hww : w.heap.size ≤ r + 1 := by omega
      have hOe : Only NoBlock w w5 := hO3.andThen hO5 (fun i hi e => by have := (World.ownsRow.lt hu i e).1; omega)
      clear hp hs hlp c0
      go_wp2_with fail
      go_ret
      have hu6 : U64s w5 (r + 1) (.slice ao l.length cap) (m.ids.map (fun i : Nat => (i : Int))) := by rw [← HL.out]; exact hu5
      exact ⟨_, rfl, U64s.lower hu6 hww, hOe⟩
    · intro x f w4 cnt4 hx hFx hLx hg4 hlt4 hO4 hs4 hen
      have hV4 := hV3.keeps hO4 (fun e => hrB e.symm)
      have hu4 : U64s w4 (r + 1) u (acc.map (fun i : Nat => (i : Int))) := U64s.keeps' hu hO4 (fun k hk e => by have := (World.ownsRow.lt hu k hk).1; omega)
      have hO5 : Only NoBlock w w4 := hO3.andThen hO4 (fun i hi e => by omega)
      have HA2 : RowKit.Hid ((acc ++ [x]).Nodup ∧ ∀ y, y ∈ acc ++ [x] ↔ ((F y).isSome = true ∧ (L y && !decide (y = x)) = false)) := Lib.hid (by
        obtain ⟨h1, h2⟩ := HA.out
        have hnx : x ∉ acc := fun hm => by rw [((h2 x).1 hm).2] at hLx; cases hLx
        refine ⟨List.nodup_append.2 ⟨h1, List.nodup_cons.2 ⟨List.not_mem_nil, List.nodup_nil⟩, ?_⟩, fun y => ?_⟩
        · intro a ha b hb e
          simp at hb
          subst hb
          subst e
          exact hnx ha
        · rw [List.mem_append, h2 y]
          by_cases e : y = x
          · subst e; simp [hFx]
          · simp [e])
      have hac2 : (acc ++ [x]).length + cnt4 ≤ m.ids.length := by rw [List.length_append]; simp; omega
      have hal : (acc.map (fun i : Nat => (i : Int))).length + 1 ≤ 17592186044416 := by rw [List.length_map]; omega
      have hmap : (acc ++ [x]).map (fun i : Nat => (i : Int)) = acc.map (fun i : Nat => (i : Int)) ++ [(x : Int)] := by simp
      have HMAP := Lib.hid hmap
      have hle : wr.rangeLeft mb r = cnt := hg.left_eq
      clear hmap HA hV3 hu hac hO3 hO4 hg hs4
      generalize acc.map (fun i : Nat => (i : Int)) = l at hu4 hal HMAP
      obtain ⟨ao, cap, rfl⟩ := hu4.shape
      have c0 := hV4.cell 0
      have f0 := hV4.free 0
      simp only [List.getElem?_toArray, List.getElem?_cons_zero] at c0
      have hw4 : r + 1 ≤ w4.heap.size := by have := hg4.lt.1; omega
      have hVl := hV4.lt
      have hnV : ∀ k, (Value.slice ao l.length cap).ownBlock = some k → k ≠ B := fun k hk e => by have := (World.ownsRow.lt hu4 k hk).1; omega
      have hlen1 : (l ++ [(x : Int)]).length = l.length + 1 := by simp
      have HLN := Lib.hid hlen1
      clear hlen1
      go_wp2_with (first
        | (at_builtin; refine wpList_append_u64 _ rfl _ _ rfl (r + 1) (.slice ao l.length cap) l (x : Int) ⟨w4.heap.size, 0, none⟩ 1 rfl (U64s.keeps' hu4 ((Only.refl NoBlock _).alloc _) (fun _ _ h => h)) rfl (cell_u64 _ _ _ _ rfl) hal (by simp; omega) ?_; intro v7 w7 he7 hg7; have hV7 : Blk w7 B _ _ := (hg7.block _ (by simp; omega) (fun e => hnV B e.symm rfl)).trans (hV4.alloc _); have c7 := hV7.cell 0; have f7 := hV7.free 0; simp only [List.getElem?_toArray, List.getElem?_cons_zero] at c7; obtain ⟨ao7, cap7, rfl⟩ := he7.shape; rw [HLN.out] at he7)
        | go_in)
      have hO7 : Only NoBlock w w7 := (hO5.alloc _).grown hg7 (fun k hk hlt => by have := (World.ownsRow.lt hu4 k hk).1; omega)
      have hO8 := hO7.setCell (p := ⟨B, 0, none⟩) (fun h => by have h' : B < w.heap.size := h; omega) (.slice ao7 (l.length + 1) cap7)
      have hmbN : mb < r := hmbr
      have hg7' := (hg4.keeps ((Only.refl NoBlock w4).alloc (Obj.cells #[.int .u64 (x : Int)] 28))).keepsG hg7 (fun e => by have := (World.ownsRow.lt hu4 mb e.symm).1; omega) (fun e => by have := (World.ownsRow.lt hu4 r e.symm).1; omega)
      have hg8 := hg7'.keepsS B (.slice ao7 (l.length + 1) cap7) (fun e => hmbB e.symm) hrB
      have hV8 : Blk (w7.setCell ⟨B, 0, none⟩ (.slice ao7 (l.length + 1) cap7)) B #[.slice ao7 (l.length + 1) cap7] 22 := hV7.setCell 0 (.slice ao7 (l.length + 1) cap7)
      have hu8 : U64s (w7.setCell ⟨B, 0, none⟩ (.slice ao7 (l.length + 1) cap7)) (r + 1) (.slice ao7 (l.length + 1) cap7) (l ++ [(x : Int)]) := U64s.keeps' (S := fun k => k = B) he7 ((Only.refl (fun k => k = B) w7).setCell (p := ⟨B, 0, none⟩) (fun _ => rfl) _) (fun k hk e => by have := (World.ownsRow.lt he7 k hk).1; omega)
      clear hV7 he7 c7 f7 hg7 hg7' hV4 hu4 c0 f0 hO5 hO7
      go_roundw
      case rel => exact ⟨_, cnt4, acc ++ [x], _, hg8, hV8, by rw [HMAP.out]; exact hu8, hac2, HA2, hO8⟩
      case measure => rw [hg8.left_eq, hle]; exact hlt4
end Go.Proofs.Ytogeeeigfhmpmaa
