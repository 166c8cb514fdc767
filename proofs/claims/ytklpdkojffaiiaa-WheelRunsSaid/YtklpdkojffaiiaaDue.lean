/- In how much time the next timer is due. -/
import Derived.Test.YtklpdkojffaiiaaWheelC
import Derived.Test.YtklpdkojffaiiaaRound
import Derived.Test.YtklpdkojffaiiaaStop
namespace Go.Proofs.Ytklpdkojffaiiaa
open Go.RowKit Go.Shelf
set_option maxRecDepth 100000
attribute [local go_sem] Oper.semAt_some

namespace Wh
def least (b d : Nat) : Nat := if b = 0 ∨ d < b then d else b
def nextL (l : List Tm) (now : Nat) (b : Nat) : Nat := l.foldl (fun b t => least b (t.due - now)) b
def nextA (A : List Tm) (now : Nat) : Nat := nextL A now 0
theorem nextL_append (l m : List Tm) (now b : Nat) : nextL (l ++ m) now b = nextL m now (nextL l now b) := by
  unfold nextL; rw [List.foldl_append]
theorem nextL_take {l : List Tm} {k : Nat} (h : k < l.length) (now b : Nat) : nextL (l.take (k + 1)) now b = least (nextL (l.take k) now b) ((l.getD k Tm.zero).due - now) := by
  rw [List.take_succ_eq_append_getElem h, nextL_append, List.getD_eq_getElem?_getD, List.getElem?_eq_getElem h]
  rfl
theorem least_comm {x y : Nat} (hx : 1 ≤ x) (hy : 1 ≤ y) (b : Nat) : least (least b x) y = least (least b y) x := by
  unfold least
  repeat' split
  all_goals omega
theorem next_perm {l m : List Tm} {now : Nat} (h : l.Perm m) (hd : ∀ t ∈ l, now < t.due) : nextA l now = nextA m now := by
  unfold nextA nextL
  exact h.foldl_eq' (fun x hx y hy z => least_comm (by have := hd x hx; omega) (by have := hd y hy; omega) z) 0
theorem least_pos {b d : Nat} (hd : 1 ≤ d) : 1 ≤ least b d := by unfold least; split <;> omega
theorem nextL_pos {l : List Tm} {now b : Nat} (hd : ∀ t ∈ l, now < t.due) (hb : 1 ≤ b ∨ l ≠ []) : 1 ≤ nextL l now b := by
  unfold nextL
  induction l generalizing b with
  | nil => exact hb.resolve_right (fun h => h rfl)
  | cons t r ih =>
    have := hd t (List.mem_cons_self ..)
    exact ih (fun t ht => hd t (List.mem_cons_of_mem _ ht)) (.inl (least_pos (by omega)))
theorem blk_put {w : World} {l b : Nat} {cs : Array Value} {t : TypeId} {o o' : Obj} (h : Blk w b cs t) (hl : w.heap[l]? = some o) (hn : o.isCells = false) : Blk (w.putObj l o') b cs t := by
  have hne : b ≠ l := fun e => by
    subst e
    unfold Blk at h
    rw [h] at hl
    cases hl
    cases hn
  unfold Blk at h ⊢
  rw [World.putObj_heap_other hne]
  exact h
theorem keepsB {w w' : World} {b : Nat} {cs : Array Value} {t : TypeId} (h : Blk w b cs t) (ho : Only (fun k => k = b) w w') : KeepsOthers w w' :=
  ⟨ho.size, fun k o hk hc => ho.keeps (fun e => by
    subst e
    unfold Blk at h
    rw [h] at hk
    cases hk
    cases hc) hk⟩
end Wh
set_option maxHeartbeats 4000000 in
theorem due_at (w : World) (base p r0 r1 r2 : Nat) (X : Nat → Prop) (M : Wh.Wl) (h : Wh.WheelAt w base X p r0 r1 r2 M) (hd : ∀ q, q < 449 → ∀ t ∈ M.L q, M.now < t.due) :
    Calls Try.prog 15 #[.pointer (some ⟨p, 0, none⟩)] w fun e w' => e = .returned (.int .u64 (Wh.nextA M.all M.now)) ∧ Only NoBlock w w' := by
  refine (callsIn_wide (n := 3)).1 ?_
  refine callsIn_of_wp_marks Try.func15 rfl trivial ?_ rfl
  simp only [Try.ntmps15, List.size_toArray, List.length_cons, List.length_nil, Nat.reduceAdd, Nat.reduceSub, Array.replicate_succ, Array.replicate_zero, List.push_toArray, List.append_toArray, List.nil_append, List.cons_append]
  have hn := ((Only.refl NoBlock w).alloc (Obj.cells #[.pointer (some ⟨p, 0, none⟩)] 23)).alloc (Obj.cells #[.int .u64 0] 33)
  have cw : Blk ((w.alloc (Obj.cells #[.pointer (some ⟨p, 0, none⟩)] 23)).alloc (Obj.cells #[.int .u64 0] 33)) w.heap.size #[.pointer (some ⟨p, 0, none⟩)] 23 := (Blk.made w #[.pointer (some ⟨p, 0, none⟩)] 23).alloc _
  have cr := Blk.made (w.alloc (Obj.cells #[.pointer (some ⟨p, 0, none⟩)] 23)) #[.int .u64 0] 33
  simp only [World.size_alloc] at cr
  gi_wp2
  generalize (w.alloc (Obj.cells #[.pointer (some ⟨p, 0, none⟩)] 23)).alloc (Obj.cells #[.int .u64 0] 33) = w0 at hn cw cr ⊢
  have hx0 := h.more (Y := fun b => b = w.heap.size + 1) hn (fun b e => by subst e; exact ⟨by omega, cr.lt⟩)
  refine range_law (gf := 27) (first := #[.pointer (some ⟨p, 0, none⟩)]) rfl (enters_of Try.func27 (by kernel_rfl) rfl) (lists_iter _ p r0 r1 r2)
    (fun q W => Blk W (w.heap.size + 1) #[.int .u64 (Wh.nextL (Wh.allUpTo M.L q) M.now 0)] 33 ∧ Only (fun k => k = w.heap.size + 1) w0 W)
    (fun _ _ => False)
    (fun q => ⟨fun o' h hl ho hc => ⟨Wh.blk_put h.1 ho hc, only_put o' h.2 hl⟩, fun o h => ⟨h.1.alloc o, h.2.alloc o⟩⟩)
    (fun c => ⟨fun o' h hl ho hc => h, fun o h => h⟩)
    ⟨cr, Only.refl _ _⟩ (fun q W hh => (hx0.keepsX (hh.2.mono (fun k e => .inr e))).rg)
    (fun q => { tmps := #[.pointer (some ⟨p, 0, none⟩), .pointer (some ⟨w.heap.size, 0, none⟩), .int .u64 0, .pointer (some ⟨w.heap.size + 1, 0, none⟩), .pointer (some (Wh.loc p r0 r1 r2 q)), undef, undef, undef, .pointer (some ⟨p, 0, none⟩), .bool false, .pointer (some ⟨p, 0, none⟩), .func (.func 27) #[.pointer (some ⟨p, 0, none⟩)] #[], .pointer (some (Wh.loc p r0 r1 r2 q)), undef, undef, undef, undef, undef, undef, undef, undef, undef, undef, undef, undef, undef, undef, undef, undef, undef, undef, undef, undef, undef, undef, undef, undef, undef], defers := [] }) ?assign ?body ?done ?stop
  case assign =>
    intro l q W K hK
    gi_wp2
    exact hK
  case stop =>
    rintro D c W hD hF hK
    exact hF.elim
  case done =>
    rintro D W hD ⟨hb, hO⟩ hK
    have y0 := hb.cell 0
    have hzn := hn.size
    obtain ⟨R, hR⟩ : ∃ R, Wh.nextL (Wh.allUpTo M.L 449) M.now 0 = R := ⟨_, rfl⟩
    rw [hR] at y0 hb
    have HR := Lib.hid hR
    clear hR
    simp at y0
    gi_wp2
    refine ⟨by simp, .inl ⟨_, _, rfl, run_takeDeferred hK, ?_⟩⟩
    refine ⟨.int .u64 R, ?_, by rw [← HR.out]; rfl, only_put _ (hn.andThen hO (fun i hi e => by have e' : i = w.heap.size + 1 := e; omega)) (by omega)⟩
    simp [results, Try.f15, go_sem]
  case body =>
    rintro l q W hq ⟨hb, hO⟩
    have hwW := hx0.keepsX (hO.mono (fun k e => .inr e))
    obtain ⟨V, hV⟩ := hwW.ex
    obtain ⟨hc, hT⟩ := hV.at_ q hq
    obtain ⟨ao, cap, hv⟩ := hT.shape
    have hout := hV.out q hq
    rw [hv] at hc hT hout
    have hll := hT.2.2
    have hdq := hd q hq
    have hsucc := Wh.allUpTo_succ M.L q
    obtain ⟨L, hL⟩ : ∃ L, M.L q = L := ⟨_, rfl⟩
    rw [hL] at hc hT hll hdq hsucc hout
    obtain ⟨U, hU⟩ : ∃ U, Wh.nextL (Wh.allUpTo M.L q) M.now 0 = U := ⟨_, rfl⟩
    rw [hU] at hb
    have HE : RowKit.Hid (Wh.nextL (Wh.allUpTo M.L (q + 1)) M.now 0 = Wh.nextL L M.now U) := Lib.hid (by rw [hsucc, Wh.nextL_append, hU])
    have cwW := cw.keeps hO (fun e => by have e' : w.heap.size = w.heap.size + 1 := e; omega)
    have x0 := cwW.cell 0
    simp at x0
    have hnW := hwW.now
    have hne : (Value.slice ao L.length cap).ownBlock ≠ some (w.heap.size + 1) := fun e => hout _ e (.inr rfl)
    have hpne : p ≠ w.heap.size + 1 := by obtain ⟨c, hb', _⟩ := h.bp; have := hb'.lt; omega
    have hxne : w.heap.size ≠ w.heap.size + 1 := by omega
    have HD := Lib.hid hdq
    obtain ⟨NW, hNW⟩ : ∃ NW, M.now = NW := ⟨_, rfl⟩
    rw [hNW] at hnW HE HD
    have HNW := Lib.hid hNW
    clear hV hv hL hU hsucc hwW hdq hd hout hNW
    generalize Wh.loc p r0 r1 r2 q = A at hc ⊢
    gi_wp2
    gi_loopw [17] (fun u17 wr => ∃ k : Nat, k ≤ L.length ∧ u17 = .int .i64 k ∧ Blk wr (w.heap.size + 1) #[.int .u64 (Wh.nextL (L.take k) NW U)] 33 ∧ Only (fun k => k = w.heap.size + 1) W wr) (fun u17 _ => L.length - (intOf u17).toNat)
    case atStart => exact ⟨0, by omega, rfl, hb, Only.refl _ _⟩
    case round =>
      obtain ⟨k, hk, rfl, hbk, hO1⟩ := hrel
      have hT1 := hT.keeps hO1 (fun b e h => hne (by rw [e, h]))
      by_cases hlt : k < L.length
      · obtain ⟨g, rfl, c0, c1, c2⟩ := hT1.cell hlt
        have hmem : L.getD k Wh.Tm.zero ∈ L := by rw [List.getD_eq_getElem?_getD, List.getElem?_eq_getElem hlt]; exact List.getElem_mem hlt
        have hgt := HD.out _ hmem
        have hwf := (hT.2.1 _ hmem).due
        have HS := Lib.hid (Wh.nextL_take hlt NW U)
        have x1 : wr.cell? ⟨w.heap.size, 0, none⟩ = some (.pointer (some ⟨p, 0, none⟩)) := (World.cell?_of_block (a := ⟨w.heap.size, 0, none⟩) (hO1.block _ (World.block_lt_of_cell? W _ x0) hxne)).trans x0
        have n1 : wr.cell? ⟨p, 0, none⟩ = some (.int .u64 NW) := (World.cell?_of_block (a := ⟨p, 0, none⟩) (hO1.block _ (World.block_lt_of_cell? W _ hnW) hpne)).trans hnW
        have hA1 := (Only.refl NoBlock wr).alloc (Obj.cells #[.int .i64 (L.getD k Wh.Tm.zero).id, .int .u64 (L.getD k Wh.Tm.zero).due, .int .i64 (L.getD k Wh.Tm.zero).turn] 53)
        obtain ⟨t, ht⟩ : ∃ t, L.getD k Wh.Tm.zero = t := ⟨_, rfl⟩
        rw [ht] at c0 c1 c2 hA1 HS hgt hwf
        clear ht hmem
        obtain ⟨ti, td, tt⟩ := t
        simp only at c0 c1 c2 hA1 HS hgt hwf
        obtain ⟨Z, hZ⟩ : ∃ Z, Wh.nextL (L.take k) NW U = Z := ⟨_, rfl⟩
        rw [hZ] at hbk HS
        clear hZ
        obtain ⟨D, hDD⟩ : ∃ D, td - NW = D := ⟨_, rfl⟩
        rw [hDD] at HS
        have hsub : IntKind.u64.wrap ((td : Int) - (NW : Int)) = (D : Int) := by rw [IntKind.wrap_u64]; omega
        have hD1 : 1 ≤ D := by omega
        have HDD := Lib.hid hDD
        clear hDD
        have ct := Blk.made wr #[.int .i64 ti, .int .u64 td, .int .i64 tt] 53
        have t1 : ((wr.alloc (Obj.cells #[.int .i64 ti, .int .u64 td, .int .i64 tt] 53)).drew).cell? ⟨wr.heap.size, 1, none⟩ = some (.int .u64 td) := by rw [ct.drew.cell]; rfl
        have x2 := Wh.cell_same hA1.drew x1
        have n2 := Wh.cell_same hA1.drew n1
        have hbk2 := hbk.keeps hA1.drew (fun h => h)
        have hA3 := hA1.drew
        have hO3 : Only (fun k => k = w.heap.size + 1) W _ := hO1.trans (hA3.of_no)
        gi_wp2
        -- ROUND 9
        refine round_held (S := fun w' => w'.cell? ⟨wr.heap.size, 1, none⟩ = some (.int .u64 td) ∧ w'.cell? ⟨w.heap.size, 0, none⟩ = some (.pointer (some ⟨p, 0, none⟩)) ∧ w'.cell? ⟨p, 0, none⟩ = some (.int .u64 NW)) (by kernel_rfl) (by kernel_rfl) ⟨t1, x2, n2⟩ (fun hHeld => ?_)
        generalize (wr.alloc (Obj.cells #[.int .i64 ti, .int .u64 td, .int .i64 tt] 53)).drew = w3 at t1 x2 n2 hbk2 hA3 hO3 ⊢
        refine Wh.take (i := 0) (d := some 21) (v := ?v1) rfl (by rfl) (by kernel_rfl) (by kernel_rfl) (by kernel_rfl) (fun _ _ _ h => h.no) (Or.inl ⟨by rfl, ?h1⟩) ⟨t1, x2, n2⟩ ?r1
        case h1 => (intro w hSw; (try dsimp only at hSw); go_simp; all_goals (try with_reducible rfl))
        simp only [Act.put, List.setIfInBounds_toArray, List.set_cons_zero, List.set_cons_succ]
        refine Wh.take (i := 1) (d := some 22) (v := ?v2) rfl (by rfl) (by kernel_rfl) (by kernel_rfl) (by kernel_rfl) (fun _ _ _ h => h.no) (Or.inl ⟨by rfl, ?h2⟩) ⟨t1, x2, n2⟩ ?r2
        case h2 => (intro w hSw; (try dsimp only at hSw); go_simp; all_goals (try with_reducible rfl))
        simp only [Act.put, List.setIfInBounds_toArray, List.set_cons_zero, List.set_cons_succ]
        refine Wh.take (i := 2) (d := some 23) (v := ?v3) rfl (by rfl) (by kernel_rfl) (by kernel_rfl) (by kernel_rfl) (fun _ _ _ h => h.no) (Or.inl ⟨by rfl, ?h3⟩) ⟨t1, x2, n2⟩ ?r3
        case h3 => (intro w hSw; (try dsimp only at hSw); go_simp; all_goals (try with_reducible rfl))
        simp only [Act.put, List.setIfInBounds_toArray, List.set_cons_zero, List.set_cons_succ]
        refine Wh.take (i := 3) (d := some 24) (v := ?v4) rfl (by rfl) (by kernel_rfl) (by kernel_rfl) (by kernel_rfl) (fun _ _ _ h => h.no) (Or.inl ⟨by rfl, ?h4⟩) ⟨t1, x2, n2⟩ ?r4
        case h4 => (intro w hSw; (try dsimp only at hSw); go_simp; all_goals (try with_reducible rfl))
        simp only [Act.put, List.setIfInBounds_toArray, List.set_cons_zero, List.set_cons_succ]
        refine Wh.take (i := 4) (d := some 25) (v := ?v5) rfl (by rfl) (by kernel_rfl) (by kernel_rfl) (by kernel_rfl) (fun _ _ _ h => h.no) (Or.inl ⟨by rfl, ?h5⟩) ⟨t1, x2, n2⟩ ?r5
        case h5 => (intro w hSw; (try dsimp only at hSw); go_simp; all_goals (try with_reducible rfl))
        simp only [Act.put, List.setIfInBounds_toArray, List.set_cons_zero, List.set_cons_succ]
        refine Wh.take (i := 5) (d := some 26) (v := ?v6) rfl (by rfl) (by kernel_rfl) (by kernel_rfl) (by kernel_rfl) (fun _ _ _ h => h.no) (Or.inl ⟨by rfl, ?h6⟩) ⟨t1, x2, n2⟩ ?r6
        case h6 => (intro w hSw; (try dsimp only at hSw); go_simp; all_goals (try with_reducible rfl))
        simp only [Act.put, List.setIfInBounds_toArray, List.set_cons_zero, List.set_cons_succ]
        refine Wh.take (i := 6) (d := some 27) (v := ?v7) rfl (by rfl) (by kernel_rfl) (by kernel_rfl) (by kernel_rfl) (fun _ _ _ h => h.no) (Or.inl ⟨by rfl, ?h7⟩) ⟨t1, x2, n2⟩ ?r7
        case h7 => (intro w hSw; (try dsimp only at hSw); go_simp; all_goals (try with_reducible rfl))
        simp only [Act.put, List.setIfInBounds_toArray, List.set_cons_zero, List.set_cons_succ]
        refine Wh.take (i := 7) (d := some 7) (v := ?v8) rfl (by rfl) (by kernel_rfl) (by kernel_rfl) (by kernel_rfl) (fun _ _ _ h => h.no) (Or.inl ⟨by rfl, ?h8⟩) ⟨t1, x2, n2⟩ ?r8
        case h8 => (intro w hSw; (try dsimp only at hSw); go_simp; all_goals (try with_reducible rfl))
        simp only [Act.put, List.setIfInBounds_toArray, List.set_cons_zero, List.set_cons_succ]
        refine wpAnyH_done (by kernel_rfl) ?_ _
        refine ⟨rfl, ?_⟩
        try simp only [Act.put, List.setIfInBounds_toArray, List.set_cons_zero, List.set_cons_succ]
        clear hHeld t1 n2 x2 c0 c1 c2 n1 x1 hT1 hsub
        have hz0 := hbk2.cell 0
        have hf0 := hbk2.free 0
        simp at hz0
        by_cases hz : Z = 0
        · have HL : RowKit.Hid (Z = 0 ∨ D < Z) := Lib.hid (.inl hz)
          have hq0 : ((Z : Int) == 0) = true := by rw [beq_iff_eq]; omega
          clear hz
          have hb5 := hbk2.setCell 0 (.int .u64 D)
          have e5 : (#[Value.int .u64 (Z : Int)] : Array Value).setIfInBounds 0 (.int .u64 D) = #[.int .u64 (D : Int)] := by rfl
          rw [e5] at hb5
          have hO5 := hO3.setCell (p := ⟨w.heap.size + 1, 0, none⟩) (fun _ => rfl) (.int .u64 (D : Int))
          gi_wp2
          go_roundw
          case rel =>
            first
              | exact ⟨k + 1, by omega, by go_num, (by rw [HS.out]; unfold Wh.least; rw [if_pos HL.out]; exact hb5), hO5⟩
              | ((repeat apply Exists.intro); exact ⟨⟨k + 1, by omega, by go_num, (by rw [HS.out]; unfold Wh.least; rw [if_pos HL.out]; exact hb5), hO5⟩, rfl⟩)
          case measure => simp [intOf]; omega
        · have hq0 : ((Z : Int) == 0) = false := by rw [beq_eq_false_iff_ne]; omega
          by_cases hl : D < Z
          · have HL : RowKit.Hid (Z = 0 ∨ D < Z) := Lib.hid (.inr hl)
            have hq1 : decide ((D : Int) < (Z : Int)) = true := by rw [decide_eq_true_eq]; omega
            have hq2 : decide (D < Z) = true := by rw [decide_eq_true_eq]; omega
            clear hz hl
            have hb5 := hbk2.setCell 0 (.int .u64 D)
            have e5 : (#[Value.int .u64 (Z : Int)] : Array Value).setIfInBounds 0 (.int .u64 D) = #[.int .u64 (D : Int)] := by rfl
            rw [e5] at hb5
            have hO5 := hO3.setCell (p := ⟨w.heap.size + 1, 0, none⟩) (fun _ => rfl) (.int .u64 (D : Int))
            gi_wp2
            go_roundw
            case rel =>
              first
                | exact ⟨k + 1, by omega, by go_num, (by rw [HS.out]; unfold Wh.least; rw [if_pos HL.out]; exact hb5), hO5⟩
                | ((repeat apply Exists.intro); exact ⟨⟨k + 1, by omega, by go_num, (by rw [HS.out]; unfold Wh.least; rw [if_pos HL.out]; exact hb5), hO5⟩, rfl⟩)
            case measure => simp [intOf]; omega
          · have HL : RowKit.Hid (¬ (Z = 0 ∨ D < Z)) := Lib.hid (by omega)
            have hq1 : decide ((D : Int) < (Z : Int)) = false := by rw [decide_eq_false_iff_not]; omega
            have hq2 : decide (D < Z) = false := by rw [decide_eq_false_iff_not]; omega
            clear hz hl
            gi_wp2
            go_roundw
            case rel =>
              first
                | exact ⟨k + 1, by omega, by go_num, (by rw [HS.out]; unfold Wh.least; rw [if_neg HL.out]; exact hbk2), hO3⟩
                | ((repeat apply Exists.intro); exact ⟨⟨k + 1, by omega, by go_num, (by rw [HS.out]; unfold Wh.least; rw [if_neg HL.out]; exact hbk2), hO3⟩, rfl⟩)
            case measure => simp [intOf]; omega
        -- END 9
      · obtain rfl : k = L.length := by omega
        rw [List.take_length] at hbk
        gi_wp2
        refine ⟨Wh.keepsB hb hO1, ?_, hO.trans hO1⟩
        rw [HNW.out, HE.out]; exact hbk
theorem due_i (w : World) (base p now : Nat) (X : Nat → Prop) (A : List Wh.Tm) (turn : Int) (h : WheelI w base X p A now turn) :
    Calls Try.prog 15 #[.pointer (some ⟨p, 0, none⟩)] w fun e w' => e = .returned (.int .u64 (Wh.nextA A now)) ∧ Only NoBlock w w' := by
  obtain ⟨r0, r1, r2, M, h1, h2, rfl, rfl⟩ := h
  have := due_at w base p r0 r1 r2 X M h1 (fun q hq t ht => (h2.at_ q hq t ht).1)
  rw [Wh.next_perm h2.perm (fun t ht => h2.now_lt (h2.perm.mem_iff.1 ht))] at this
  exact this
end Go.Proofs.Ytklpdkojffaiiaa
