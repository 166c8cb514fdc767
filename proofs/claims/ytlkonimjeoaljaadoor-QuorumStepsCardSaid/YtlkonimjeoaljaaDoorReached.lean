/- The program's quorum.Reached. -/
import Derived.Test.YtlkonimjeoaljaaDoorChange
import Derived.Test.YtlkonimjeoaljaaDoorSortDesc
namespace Go.Proofs.YtlkonimjeoaljaaDoor
open Go.RowKit

namespace Qu
/-- what the members have reached -/
def vals (c : Nat) (l : List Int) : List Int := (mem (c % 128)).map (fun i => l.getD i.toNat 0)
def reachN (c : Nat) (l : List Int) : Int := (Sd.desc (vals c l)).getD (pop (c % 128) / 2) 0
theorem vals_length (c : Nat) (l : List Int) : (vals c l).length = pop (c % 128) := by unfold vals pop; rw [List.length_map]
theorem vals_take {c k : Nat} {l : List Int} (h : k < (mem (c % 128)).length) : (vals c l).take (k + 1) = (vals c l).take k ++ [l.getD ((mem (c % 128)).getD k 0).toNat 0] := by
  have e : (vals c l)[k]? = some (l.getD ((mem (c % 128)).getD k 0).toNat 0) := by
    unfold vals
    rw [List.getElem?_map, List.getElem?_eq_getElem h, List.getD_eq_getElem?_getD (l := mem (c % 128)), List.getElem?_eq_getElem h]
    rfl
  rw [List.take_add_one, e]
  rfl
end Qu

theorem Only.cell {S : Nat → Prop} {w w' : World} {a : Addr} {v : Value} (ho : Only S w w') (hs : ¬ S a.block) (h : w.cell? a = some v) : w'.cell? a = some v := by
  have hb := ho.block a.block (World.block_lt_of_cell? w a h) hs
  rw [← h]
  simp [World.cell?, hb]

theorem need_at' (w : World) (c : Nat) (hc : c < 2 ^ 64) :
    Calls Tryd.prog 16 #[.int .u64 c] w fun e w' => e = .returned (.int .i64 ((Qu.pop (c % 128) / 2 : Nat) + 1)) ∧ w' = w :=
  (need_at w c hc).mono fun _ _ ⟨he, hw⟩ => ⟨he, hw.symm⟩

theorem Ints.isIn' {w : World} {base : Nat} {v : Value} {l : List Int} (h : Ints w base v l) : ∃ ao cap, v = .slice ao l.length cap ∧ ∀ k, k < l.length → ∃ b off, ao = some ⟨b, off, none⟩ ∧ w.cell? ⟨b, off + k, none⟩ = some (.int .i64 (l.getD k 0)) := by
  obtain ⟨ao, cap, rfl⟩ := h.shape
  exact ⟨ao, cap, rfl, fun k hk => h.at' hk⟩
theorem U64s.ne {w : World} {base : Nat} {v : Value} {l : List Int} {b : Nat} {cs : Array Value} (h : U64s w base v l) (hb : Blk w b cs 23) : v.ownBlock ≠ some b := by
  rcases h.2 with ⟨rfl, _⟩ | ⟨g, cap, cur, rfl, _, hg, _⟩
  · intro e; cases e
  · intro e
    cases e
    unfold Blk at hb
    rw [hb] at hg
    cases hg

set_option maxRecDepth 100000 in
set_option maxHeartbeats 2000000 in
theorem reached_at (w : World) (c : Nat) (hc : c < 2 ^ 64) (l : List Int) (ao : Option Addr) (cap : Nat) (hl : U64In w ao l) (ht : Qu.TabOk w) :
    Calls Tryd.prog 10 #[.int .u64 c, .slice ao l.length cap] w fun e w' => e = .returned (.int .u64 (Qu.reachN c l)) ∧ Only NoBlock w w' := by
  have hlm := hl.len
  unfold maxLen at hlm
  have ho0 : Only NoBlock w (w.alloc (.cells #[.slice none 0 0] 23)) := (Only.refl _ _).alloc _
  have hp7 := Qu.pop_le (c % 128)
  have hml : (Qu.mem (c % 128)).length ≤ 7 := hp7
  have hb0 := Blk.made w #[.slice none 0 0] 23
  go_enter Tryd.func10, Tryd.ntmps10
  go_wp2_with fail
  refine (members_at _ c hc (ht.keeps ho0 (fun h => h))).mono ?_
  rintro e w1 ⟨v, rfl, hmem, ho1⟩
  have hb1 := hb0.keeps ho1 (fun h => h)
  have hO1 := ho0.trans ho1
  have hmlt := World.ownsRow.lt hmem
  obtain ⟨am, cm, rfl, hmc⟩ := hmem.isIn'
  have hmb : ∀ b off, am = some ⟨b, off, none⟩ → w.heap.size < b := fun b off e => by subst e; have := (hmlt b rfl).1; simp at this; omega
  have HMB := Lib.hid hmb
  clear hmb hmlt
  have HMC := Lib.hid hmc
  have hmr := Qu.mem_range (c % 128)
  have HMR := Lib.hid hmr
  have hvl := Qu.vals_length c l
  have HVL := Lib.hid hvl
  have hBlt := hb1.lt
  clear hb0 ho1 hmc hmem hmr hvl ho0
  go_wp2_with fail
  go_loopw [12] (fun i wr => ∃ (k : Nat) (v : Value), k ≤ (Qu.mem (c % 128)).length ∧ i = .int .i64 k ∧ Blk wr w.heap.size #[v] 23 ∧ U64s wr w1.heap.size v ((Qu.vals c l).take k) ∧ Only (fun b => b = w.heap.size) w1 wr) (fun i _ => (Qu.mem (c % 128)).length - (intOf i).toNat)
  case atStart => exact ⟨0, .slice none 0 0, by omega, rfl, hb1, U64s.nil' _ _, Only.refl _ _⟩
  case round =>
    clear hb1
    obtain ⟨k, v, hk, rfl, hb, hrow, ho⟩ := hrel
    have hOw : Only NoBlock w wr := hO1.andThen ho (fun i hi e => by omega)
    have cB := hb.cell 0
    have fB := hb.free 0
    simp at cB
    by_cases hlt : k < (Qu.mem (c % 128)).length
    · obtain ⟨bm, om, rfl, hcell0⟩ := HMC.out k hlt
      have hcell := ho.cell (a := ⟨bm, om + k, none⟩) (fun e => by have := HMB.out bm om rfl; simp only at e; omega) hcell0
      have hid := HMR.out ((Qu.mem (c % 128)).getD k 0) (by rw [List.getD_eq_getElem?_getD, List.getElem?_eq_getElem hlt]; exact List.getElem_mem hlt)
      have hvt := Qu.vals_take (l := l) hlt
      have HVT := Lib.hid hvt
      clear hvt hcell0
      generalize (Qu.mem (c % 128)).getD k 0 = id at hcell hid HVT
      obtain ⟨hi0, hi7⟩ := hid
      obtain ⟨j, rfl⟩ := Int.eq_ofNat_of_zero_le hi0
      rw [Int.toNat_natCast] at HVT
      have hkl : ((Qu.vals c l).take k).length ≤ 7 := by rw [List.length_take, HVL.out]; omega
      have hz1 := ho.size
      have hrest : ∀ (x : Int) (w3 : World) (v' : Value), U64s w3 w1.heap.size v' ((Qu.vals c l).take k ++ [x]) → (wr.alloc (.cells #[.int .u64 x] 22)).grownBy w3 v.ownBlock → Blk w3 w.heap.size #[v] 23 ∧
          (Blk (w3.setCell ⟨w.heap.size, 0, none⟩ v') w.heap.size #[v'] 23 ∧ U64s (w3.setCell ⟨w.heap.size, 0, none⟩ v') w1.heap.size v' ((Qu.vals c l).take k ++ [x]) ∧ Only (fun b => b = w.heap.size) w1 (w3.setCell ⟨w.heap.size, 0, none⟩ v')) := by
        intro x w3 v' h3 hg
        have hal := (Only.refl NoBlock wr).alloc (.cells #[.int .u64 x] 22)
        have hrow' : U64s _ _ _ _ := hrow.keeps' hal (fun _ _ h => h)
        have hbk : Blk w3 w.heap.size #[v] 23 := (hb.keeps hal (fun h => h)).keeps (Only.of_grown hg) (fun e => hrow.ne hb e)
        refine ⟨hbk, ?_, ?_, ?_⟩
        · have := hbk.setCell 0 v'
          simpa using this
        · refine h3.keeps' (S := fun b => b = w.heap.size) ((Only.refl (fun b => b = w.heap.size) w3).setCell (p := ⟨w.heap.size, 0, none⟩) (fun _ => rfl) v') ?_
          intro b hb' e
          have := (World.ownsRow.lt h3 b hb').1
          omega
        · have h5 : Only (fun b => b = w.heap.size) w1 w3 := (ho.alloc _).grown hg (fun b hb' hlt' => by have := (World.ownsRow.lt hrow b hb').1; omega)
          exact h5.setCell (p := ⟨w.heap.size, 0, none⟩) (fun _ => rfl) v'
      have HR := Lib.hid hrest
      clear hrest
      by_cases hj : j < l.length
      · obtain ⟨ba, oa, rfl, hca⟩ := (hl.stay hOw (fun _ _ h => h)).cell j hj
        generalize l.getD j 0 = x at hca HVT
        go_wp2_with (first
          | (at_builtin; refine wpList_append_u64 _ rfl _ _ rfl w1.heap.size v ((Qu.vals c l).take k) x ⟨wr.heap.size, 0, none⟩ 1 rfl (hrow.keeps' ((Only.refl NoBlock wr).alloc _) (fun _ _ h => h)) rfl (cell_u64 _ _ _ _ rfl) (by omega) (by simp; omega) ?_; intro v' w3 hb3 hg3; obtain ⟨a3, c3, rfl⟩ := U64s.shape hb3; obtain ⟨hk3, hs3, hs4, hs5⟩ := HR.out x w3 _ hb3 hg3; have cB3 := hk3.cell 0; have fB3 := hk3.free 0; simp at cB3))
        go_roundw
        case rel =>
          simp only [List.length_append, List.length_take, List.length_cons, List.length_nil, Nat.zero_add] at hs3 hs4 hs5
          exact ⟨k + 1, _, by omega, by go_num, hs3, by rw [HVT.out]; exact hs4, hs5⟩
        case measure => simp [intOf]; omega
      · have hx0 : l.getD j 0 = 0 := by rw [List.getD_eq_getElem?_getD, List.getElem?_eq_none (by omega)]; rfl
        rw [hx0] at HVT
        clear hx0
        go_wp2_with (first
          | (at_builtin; refine wpList_append_u64 _ rfl _ _ rfl w1.heap.size v ((Qu.vals c l).take k) 0 ⟨wr.heap.size, 0, none⟩ 1 rfl (hrow.keeps' ((Only.refl NoBlock wr).alloc _) (fun _ _ h => h)) rfl (cell_u64 _ _ _ _ rfl) (by omega) (by simp; omega) ?_; intro v' w3 hb3 hg3; obtain ⟨a3, c3, rfl⟩ := U64s.shape hb3; obtain ⟨hk3, hs3, hs4, hs5⟩ := HR.out 0 w3 _ hb3 hg3; have cB3 := hk3.cell 0; have fB3 := hk3.free 0; simp at cB3))
        go_roundw
        case rel =>
          simp only [List.length_append, List.length_take, List.length_cons, List.length_nil, Nat.zero_add] at hs3 hs4 hs5
          exact ⟨k + 1, _, by omega, by go_num, hs3, by rw [HVT.out]; exact hs4, hs5⟩
        case measure => simp [intOf]; omega
    · obtain rfl : k = (Qu.mem (c % 128)).length := by omega
      have hvt : (Qu.vals c l).take (Qu.mem (c % 128)).length = Qu.vals c l := List.take_of_length_le (by rw [HVL.out]; exact Nat.le_refl _)
      rw [hvt] at hrow
      clear hvt
      have hpl : Qu.pop (c % 128) = (Qu.mem (c % 128)).length := rfl
      by_cases hn0 : Qu.pop (c % 128) = 0
      · have hv0 : Qu.vals c l = [] := List.eq_nil_of_length_eq_zero (by rw [HVL.out]; exact hn0)
        have hre : Qu.reachN c l = 0 := by
          have e : Sd.desc [] = [] := by unfold Sd.desc; exact List.mergeSort_nil ..
          unfold Qu.reachN
          rw [hv0, hn0, e]
          rfl
        have HRE := Lib.hid hre
        obtain ⟨a0, c0, rfl⟩ := hrow.shape
        rw [hv0] at cB
        clear hre hv0 hpl hn0
        go_wp2_with fail
        go_ret
        exact ⟨by rw [HRE.out]; rfl, hOw⟩
      · rcases hrow.2 with ⟨_, h0⟩ | ⟨g, cap', cur, rfl, _⟩
        · rw [HVL.out] at h0; exact absurd h0 hn0
        have hgB : w.heap.size ≠ g := fun e => hrow.ne hb (by rw [e]; rfl)
        have hvle : 1 ≤ (Qu.vals c l).length ∧ (Qu.vals c l).length ≤ 7 := by rw [HVL.out]; omega
        have hvb : (Qu.vals c l).length ≠ 0 := by omega
        go_wp2_with fail
        refine (sort_desc wr w1.heap.size w.heap.size g cap' (Qu.vals c l) cB hgB hvle.1 hvle.2 hrow).mono ?_
        rintro e w4 ⟨rfl, hs4, ho4⟩
        have hb4 := hb.keeps ho4 hgB
        have cB4 := hb4.cell 0
        simp at cB4
        have hO4 : Only NoBlock w w4 := hOw.andThen ho4 (by
          intro i hi e
          have h1 := (World.ownsRow.lt hrow g rfl).1
          have h2 := hO1.size
          have e' : i = g := e
          exfalso
          omega)
        have hdl := Sd.desc_length (Qu.vals c l)
        rw [← hdl] at hs4
        obtain ⟨b5, o5, e5, hc5⟩ := U64s.at' (k := Qu.pop (c % 128) / 2) hs4 (by rw [hdl, HVL.out]; omega)
        cases e5
        rw [Nat.zero_add] at hc5
        have hcap := (U64s.lenLe hs4).1
        have hRE : (Sd.desc (Qu.vals c l)).getD (Qu.pop (c % 128) / 2) 0 = Qu.reachN c l := rfl
        rw [hRE] at hc5
        have hu : Qu.pop (c % 128) / 2 < (Qu.vals c l).length := by rw [HVL.out]; omega
        clear hRE hdl hs4 hrow hb4 hb cB fB hO1 hOw ho4 hpl hn0
        generalize hX : Qu.reachN c l = x at hc5
        have HXX := Lib.hid hX
        clear hX
        generalize hU : Qu.pop (c % 128) / 2 = u at hc5 hu
        have HU := Lib.hid hU
        clear hU
        go_wp2_with fail
        have e1 : IntKind.i64.wrap ((u : Int) + 1 - 1) = (u : Int) := by rw [IntWalk.i64_in _ (by omega)]; omega
        go_quiet ((go_at_call 16; exact Calls.quiet_of_same ((need_at' _ c hc).mono fun _ _ ⟨he, hw⟩ => ⟨by rw [he, HU.out], hw⟩)))
        clear e1
        go_wp2_with fail
        go_ret
        exact ⟨by rw [HXX.out]; rfl, hO4.drewN _⟩

end Go.Proofs.YtlkonimjeoaljaaDoor
