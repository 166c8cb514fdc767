/- What the statements of this seat lean on, part C: what the program's and the document's functions compute, in plain data. -/
import Derived.Test.YtekmjhenhgmpgaaMB
import Derived.Laws.Rows
import Derived.Deep.CutBlock
import Derived.Deep.RegionHeld3

/- The store's state: may it be one, its last index and term, a copy. -/
namespace Go.Proofs.Ytekmjhenhgmpgaa
open Go.RowKit
set_option maxRecDepth 100000

/-- the seven cells of a state -/
def stCells (h : Hrd) (s : Snp) (v : Value) : Array Value := #[.int .u64 h.term, .int .i64 h.vote, .int .u64 s.index, .int .u64 s.term, .int .u64 s.config, .string s.data, v]
def rightB (h : Hrd) (s : Snp) (l : List Ent) : Bool := Rl.newOk s l && (decide (-1 ≤ h.vote) && decide (h.vote < 7))

set_option maxHeartbeats 1600000 in
theorem right_at (w : World) (h : Hrd) (hh : h.Wf) (s : Snp) (hs : s.Wf) (ao : Option Addr) (cap : Nat) (l : List Ent) (hl : EntsIn w ao l) (hll : l.length ≤ 1000000000000) :
    Calls Try.prog 39 #[.agg #[.int .u64 h.term, .int .i64 h.vote, .int .u64 s.index, .int .u64 s.term, .int .u64 s.config, .string s.data, .slice ao l.length cap]] w fun e w' => e = .returned (.bool (rightB h s l)) ∧ Only NoBlock w w' := by
  obtain ⟨ht, hv⟩ := h
  obtain ⟨hh1, hh2⟩ := hh
  simp only at hh1 hh2 ⊢
  have hbx := Blk.made w #[.int .u64 ht, .int .i64 hv, .int .u64 s.index, .int .u64 s.term, .int .u64 s.config, .string s.data, .slice ao l.length cap] 42
  have hn := (Only.refl NoBlock w).alloc (Obj.cells #[.int .u64 ht, .int .i64 hv, .int .u64 s.index, .int .u64 s.term, .int .u64 s.config, .string s.data, .slice ao l.length cap] 42)
  go_enter Try.func39, Try.ntmps39
  go_upto_region 1 with fail
  generalize w.alloc (Obj.cells #[.int .u64 ht, .int .i64 hv, .int .u64 s.index, .int .u64 s.term, .int .u64 s.config, .string s.data, .slice ao l.length cap] 42) = w1 at hbx hn ⊢
  have b2 : w1.cell? ⟨w.heap.size, 2, none⟩ = some (.int .u64 s.index) := by rw [hbx.cell]; rfl
  have b3 : w1.cell? ⟨w.heap.size, 3, none⟩ = some (.int .u64 s.term) := by rw [hbx.cell]; rfl
  have b4 : w1.cell? ⟨w.heap.size, 4, none⟩ = some (.int .u64 s.config) := by rw [hbx.cell]; rfl
  have b5 : w1.cell? ⟨w.heap.size, 5, none⟩ = some (.string s.data) := by rw [hbx.cell]; rfl
  have b6 : w1.cell? ⟨w.heap.size, 6, none⟩ = some (.slice ao l.length cap) := by rw [hbx.cell]; rfl
  go_wp2_with fail
  refine (rlognew_at w1 s hs ao cap l (hl.keeps hn (fun _ _ h => h)) hll).mono ?_
  rintro e w2 ⟨hO2, hE⟩
  have hO := hn.trans hO2
  have hb := hbx.keeps hO2 (fun h => h)
  clear b2 b3 b4 b5 b6 hbx hn hO2
  have b1 : w2.cell? ⟨w.heap.size, 1, none⟩ = some (.int .i64 hv) := by rw [hb.cell]; rfl
  have HR : RowKit.Hid (rightB ⟨ht, hv⟩ s l = (Rl.newOk s l && (decide (-1 ≤ hv) && decide (hv < 7)))) := Lib.hid rfl
  rcases hE with ⟨hk, g, rfl, -, -⟩ | ⟨hk, rfl⟩
  · rw [hk, Bool.true_and] at HR
    clear hk
    by_cases h1 : -1 ≤ hv
    · have d1 : decide (-1 ≤ hv) = true := by simpa using h1
      rw [d1, Bool.true_and] at HR
      go_wp2_with fail
      go_ret
      exact ⟨by rw [HR.out]; rfl, hO⟩
    · have d1 : decide (-1 ≤ hv) = false := by simpa using h1
      rw [d1, Bool.false_and] at HR
      go_wp2_with fail
      go_ret
      exact ⟨by rw [HR.out]; rfl, hO⟩
  · rw [hk, Bool.false_and] at HR
    clear hk
    go_wp2_with fail
    go_ret
    exact ⟨by rw [HR.out]; rfl, hO⟩

set_option maxHeartbeats 1600000 in
theorem last_at (w : World) (h : Hrd) (s : Snp) (ao : Option Addr) (cap : Nat) (l : List Ent) (hl : EntsIn w ao l) (hll : l.length ≤ 1000000000000) :
    Calls Try.prog 46 #[.agg #[.int .u64 h.term, .int .i64 h.vote, .int .u64 s.index, .int .u64 s.term, .int .u64 s.config, .string s.data, .slice ao l.length cap]] w fun e w' => e = .returned (.tuple #[.int .u64 (Rl.lastI s l : Nat), .int .u64 (Rl.lastT s l : Nat)]) ∧ Only NoBlock w w' := by
  obtain ⟨ht, hv⟩ := h
  obtain ⟨si, st, sc, sd⟩ := s
  simp only
  have hbx := Blk.made w #[.int .u64 ht, .int .i64 hv, .int .u64 si, .int .u64 st, .int .u64 sc, .string sd, .slice ao l.length cap] 42
  have hn := (Only.refl NoBlock w).alloc (Obj.cells #[.int .u64 ht, .int .i64 hv, .int .u64 si, .int .u64 st, .int .u64 sc, .string sd, .slice ao l.length cap] 42)
  go_enter Try.func46, Try.ntmps46
  go_upto_region 1 with fail
  generalize w.alloc (Obj.cells #[.int .u64 ht, .int .i64 hv, .int .u64 si, .int .u64 st, .int .u64 sc, .string sd, .slice ao l.length cap] 42) = w1 at hbx hn ⊢
  have b2 : w1.cell? ⟨w.heap.size, 2, none⟩ = some (.int .u64 si) := by rw [hbx.cell]; rfl
  have b3 : w1.cell? ⟨w.heap.size, 3, none⟩ = some (.int .u64 st) := by rw [hbx.cell]; rfl
  have b6 : w1.cell? ⟨w.heap.size, 6, none⟩ = some (.slice ao l.length cap) := by rw [hbx.cell]; rfl
  clear hbx
  have hl1 := hl.keeps hn (fun _ _ h => h)
  clear hl
  by_cases hp : 0 < l.length
  · have hlast := getLast_getD hp
    have HI : RowKit.Hid (Rl.lastI ⟨si, st, sc, sd⟩ l = (l.getD (l.length - 1) Ent.zero).index) := Lib.hid (by unfold Rl.lastI; rw [hlast])
    have HT : RowKit.Hid (Rl.lastT ⟨si, st, sc, sd⟩ l = (l.getD (l.length - 1) Ent.zero).term) := Lib.hid (by unfold Rl.lastT; rw [hlast])
    obtain ⟨b, off, rfl, e0, e1, -, -⟩ := hl1.cell (l.length - 1) (by omega)
    obtain ⟨n, hn1⟩ : ∃ n, l.length = n + 1 := ⟨l.length - 1, by omega⟩
    rw [hn1] at b6 e0 e1 HI HT hll
    rw [Nat.add_sub_cancel] at e0 e1 HI HT
    generalize l.getD n Ent.zero = x at e0 e1 HI HT
    clear hlast hp hl1 hn1
    go_wp2_with fail
    go_quiet (fail)
    go_wp2_with fail
    go_ret2
    exact ⟨by rw [HI.out, HT.out]; rfl, hn.drewN _⟩
  · obtain rfl : l = [] := List.length_eq_zero_iff.1 (by omega)
    clear hl1
    go_wp2_with fail
    go_quiet (fail)
    go_wp2_with fail
    go_ret2
    exact ⟨rfl, hn.drewN _⟩
end Go.Proofs.Ytekmjhenhgmpgaa

/- A copy of the store's state: nothing shared. -/
namespace Go.Proofs.Ytekmjhenhgmpgaa
open Go.RowKit
set_option maxRecDepth 100000

namespace Sto
theorem u_state : ∃ fs, Try.prog.underlying 42 = some (.struct fs) := ⟨_, rfl⟩
theorem size_state : (Try.prog.info? 42).map (·.size) = some 7 := by kernel_rfl
end Sto

set_option maxHeartbeats 1600000 in
theorem copied_at (w : World) (h : Hrd) (s : Snp) (ao : Option Addr) (cap : Nat) (l : List Ent) (hl : EntsIn w ao l) (hll : l.length ≤ 1000000000000) :
    Calls Try.prog 40 #[.agg #[.int .u64 h.term, .int .i64 h.vote, .int .u64 s.index, .int .u64 s.term, .int .u64 s.config, .string s.data, .slice ao l.length cap]] w fun e w' =>
      ∃ v, e = .returned (.agg #[.int .u64 h.term, .int .i64 h.vote, .int .u64 s.index, .int .u64 s.term, .int .u64 s.config, .string s.data, v]) ∧ Ents w' w.heap.size v l ∧ Only NoBlock w w' := by
  obtain ⟨ht, hv⟩ := h
  obtain ⟨si, st, sc, sd⟩ := s
  simp only
  have hbx := Blk.made w #[.int .u64 ht, .int .i64 hv, .int .u64 si, .int .u64 st, .int .u64 sc, .string sd, .slice ao l.length cap] 42
  have hn := (Only.refl NoBlock w).alloc (Obj.cells #[.int .u64 ht, .int .i64 hv, .int .u64 si, .int .u64 st, .int .u64 sc, .string sd, .slice ao l.length cap] 42)
  have hz1 : (w.alloc (Obj.cells #[.int .u64 ht, .int .i64 hv, .int .u64 si, .int .u64 st, .int .u64 sc, .string sd, .slice ao l.length cap] 42)).heap.size = w.heap.size + 1 := by simp
  go_enter Try.func40, Try.ntmps40
  go_upto_region 1 with fail
  generalize w.alloc (Obj.cells #[.int .u64 ht, .int .i64 hv, .int .u64 si, .int .u64 st, .int .u64 sc, .string sd, .slice ao l.length cap] 42) = w1 at hbx hn hz1 ⊢
  have hl1 := hl.keeps hn (fun _ _ h => h)
  have hr2 := Blk.made w1 #[.int .u64 0, .int .i64 0, .int .u64 0, .int .u64 0, .int .u64 0, .string { data := #[] }, .slice none 0 0] 42
  rw [hz1] at hr2
  have hb2 := hbx.alloc (Obj.cells #[.int .u64 0, .int .i64 0, .int .u64 0, .int .u64 0, .int .u64 0, .string { data := #[] }, .slice none 0 0] 42)
  have hn2 := hn.alloc (Obj.cells #[.int .u64 0, .int .i64 0, .int .u64 0, .int .u64 0, .int .u64 0, .string { data := #[] }, .slice none 0 0] 42)
  have hl2 := hl1.keeps ((Only.refl NoBlock w1).alloc (Obj.cells #[.int .u64 0, .int .i64 0, .int .u64 0, .int .u64 0, .int .u64 0, .string { data := #[] }, .slice none 0 0] 42)) (fun _ _ h => h)
  have hz2 : (w1.alloc (Obj.cells #[.int .u64 0, .int .i64 0, .int .u64 0, .int .u64 0, .int .u64 0, .string { data := #[] }, .slice none 0 0] 42)).heap.size = w.heap.size + 2 := by simp [hz1]
  generalize w1.alloc (Obj.cells #[.int .u64 0, .int .i64 0, .int .u64 0, .int .u64 0, .int .u64 0, .string { data := #[] }, .slice none 0 0] 42) = w2 at hr2 hb2 hn2 hl2 hz2 ⊢
  clear hbx hn hl1 hl hz1
  have b6 : w2.cell? ⟨w.heap.size, 6, none⟩ = some (.slice ao l.length cap) := by rw [hb2.cell]; rfl
  go_upto_region 2 with (at_builtin; refine wpList_append_ents _ rfl _ _ rfl w.heap.size (.slice none 0 0) [] l _ _ _ rfl (Ents.nil _ _) rfl rfl hl2 ?_ ?_ ?_; (simp; omega); omega; intro v3 w3 he3 hg3x _; have hg3 : w2.grownBy w3 none := hg3x; clear hg3x; have hp3 : Blk w3 w.heap.size _ _ := (hg3.block w.heap.size (by omega) (by simp)).trans hb2; have hq3 : Blk w3 (w.heap.size + 1) _ _ := (hg3.block (w.heap.size + 1) (by omega) (by simp)).trans hr2; have c3 := hp3.cell 6; have f3 := hp3.free 6; simp only [List.getElem?_toArray, List.getElem?_cons_succ, List.getElem?_cons_zero] at c3; rw [List.nil_append] at he3; obtain ⟨ao3, cap3, rfl⟩ := he3.shape)
  have hz3 := hg3.size
  have hnb : (Value.slice ao3 l.length cap3).ownBlock ≠ some w.heap.size := he3.apart hp3 (by decide)
  have hnr : (Value.slice ao3 l.length cap3).ownBlock ≠ some (w.heap.size + 1) := he3.apart hq3 (by decide)
  have he4 := Ents.keeps (S := fun k => k = w.heap.size) he3 ((Only.refl (fun k => k = w.heap.size) w3).setCell (p := ⟨w.heap.size, 6, none⟩) (fun _ => rfl) (.slice ao3 l.length cap3)) (fun k hk e => hnb (by rw [hk, e]))
  have hp4 := hp3.setCell 6 (.slice ao3 l.length cap3)
  have hq4 : Blk (w3.setCell ⟨w.heap.size, 6, none⟩ (.slice ao3 l.length cap3)) (w.heap.size + 1) _ _ := hq3.keeps ((Only.refl (fun k => k = w.heap.size) w3).setCell (p := ⟨w.heap.size, 6, none⟩) (fun _ => rfl) (.slice ao3 l.length cap3)) (by omega)
  have hn4 : Only NoBlock w (w3.setCell ⟨w.heap.size, 6, none⟩ (.slice ao3 l.length cap3)) := (hn2.grown hg3 (fun k hk => by cases hk)).setCell (p := ⟨w.heap.size, 6, none⟩) (fun h => absurd h (by simp)) _
  generalize w3.setCell ⟨w.heap.size, 6, none⟩ (.slice ao3 l.length cap3) = w4 at he4 hp4 hq4 hn4 ⊢
  clear hp3 hq3 c3 f3 he3 hg3 b6 hr2 hb2 hl2 hz2 hn2 hz3
  have hp5 : Blk w4 w.heap.size #[.int .u64 ht, .int .i64 hv, .int .u64 si, .int .u64 st, .int .u64 sc, .string sd, .slice ao3 l.length cap3] 42 := hp4
  have a0 : w4.cell? ⟨w.heap.size, 0, none⟩ = some (.int .u64 ht) := by rw [hp5.cell]; rfl
  have a1 : w4.cell? ⟨w.heap.size, 1, none⟩ = some (.int .i64 hv) := by rw [hp5.cell]; rfl
  have a2 : w4.cell? ⟨w.heap.size, 2, none⟩ = some (.int .u64 si) := by rw [hp5.cell]; rfl
  have a3 : w4.cell? ⟨w.heap.size, 3, none⟩ = some (.int .u64 st) := by rw [hp5.cell]; rfl
  have a4 : w4.cell? ⟨w.heap.size, 4, none⟩ = some (.int .u64 sc) := by rw [hp5.cell]; rfl
  have a5 : w4.cell? ⟨w.heap.size, 5, none⟩ = some (.string sd) := by rw [hp5.cell]; rfl
  have a6 : w4.cell? ⟨w.heap.size, 6, none⟩ = some (.slice ao3 l.length cap3) := by rw [hp5.cell]; rfl
  have q0 : w4.cell? ⟨w.heap.size + 1, 0, none⟩ = some (.int .u64 0) := by rw [hq4.cell]; rfl
  have q1 : w4.cell? ⟨w.heap.size + 1, 1, none⟩ = some (.int .i64 0) := by rw [hq4.cell]; rfl
  have q2 : w4.cell? ⟨w.heap.size + 1, 2, none⟩ = some (.int .u64 0) := by rw [hq4.cell]; rfl
  have q3 : w4.cell? ⟨w.heap.size + 1, 3, none⟩ = some (.int .u64 0) := by rw [hq4.cell]; rfl
  have q4 : w4.cell? ⟨w.heap.size + 1, 4, none⟩ = some (.int .u64 0) := by rw [hq4.cell]; rfl
  have q5 : w4.cell? ⟨w.heap.size + 1, 5, none⟩ = some (.string { data := #[] }) := by rw [hq4.cell]; rfl
  have q6 : w4.cell? ⟨w.heap.size + 1, 6, none⟩ = some (.slice none 0 0) := by rw [hq4.cell]; rfl
  have f0 := hq4.free 0
  have f1 := hq4.free 1
  have f2 := hq4.free 2
  have f3 := hq4.free 3
  have f4 := hq4.free 4
  have f5 := hq4.free 5
  have f6 := hq4.free 6
  go_wp2_with fail
  have hq5 : Blk (((((((w4.setCell ⟨w.heap.size + 1, 0, none⟩ (.int .u64 ht)).setCell ⟨w.heap.size + 1, 1, none⟩ (.int .i64 hv)).setCell ⟨w.heap.size + 1, 2, none⟩ (.int .u64 si)).setCell ⟨w.heap.size + 1, 3, none⟩ (.int .u64 st)).setCell ⟨w.heap.size + 1, 4, none⟩ (.int .u64 sc)).setCell ⟨w.heap.size + 1, 5, none⟩ (.string sd)).setCell ⟨w.heap.size + 1, 6, none⟩ (.slice ao3 l.length cap3)) (w.heap.size + 1) #[.int .u64 ht, .int .i64 hv, .int .u64 si, .int .u64 st, .int .u64 sc, .string sd, .slice ao3 l.length cap3] 42 := (((((((hq4.setCell 0 (.int .u64 ht)).setCell 1 (.int .i64 hv)).setCell 2 (.int .u64 si)).setCell 3 (.int .u64 st)).setCell 4 (.int .u64 sc)).setCell 5 (.string sd)).setCell 6 (.slice ao3 l.length cap3))
  have hn5 : Only NoBlock w (((((((w4.setCell ⟨w.heap.size + 1, 0, none⟩ (.int .u64 ht)).setCell ⟨w.heap.size + 1, 1, none⟩ (.int .i64 hv)).setCell ⟨w.heap.size + 1, 2, none⟩ (.int .u64 si)).setCell ⟨w.heap.size + 1, 3, none⟩ (.int .u64 st)).setCell ⟨w.heap.size + 1, 4, none⟩ (.int .u64 sc)).setCell ⟨w.heap.size + 1, 5, none⟩ (.string sd)).setCell ⟨w.heap.size + 1, 6, none⟩ (.slice ao3 l.length cap3)) := (((((((hn4.setCell (p := ⟨w.heap.size + 1, 0, none⟩) (fun h => absurd h (by simp)) (.int .u64 ht)).setCell (p := ⟨w.heap.size + 1, 1, none⟩) (fun h => absurd h (by simp)) (.int .i64 hv)).setCell (p := ⟨w.heap.size + 1, 2, none⟩) (fun h => absurd h (by simp)) (.int .u64 si)).setCell (p := ⟨w.heap.size + 1, 3, none⟩) (fun h => absurd h (by simp)) (.int .u64 st)).setCell (p := ⟨w.heap.size + 1, 4, none⟩) (fun h => absurd h (by simp)) (.int .u64 sc)).setCell (p := ⟨w.heap.size + 1, 5, none⟩) (fun h => absurd h (by simp)) (.string sd)).setCell (p := ⟨w.heap.size + 1, 6, none⟩) (fun h => absurd h (by simp)) (.slice ao3 l.length cap3))
  have he5 : Ents (((((((w4.setCell ⟨w.heap.size + 1, 0, none⟩ (.int .u64 ht)).setCell ⟨w.heap.size + 1, 1, none⟩ (.int .i64 hv)).setCell ⟨w.heap.size + 1, 2, none⟩ (.int .u64 si)).setCell ⟨w.heap.size + 1, 3, none⟩ (.int .u64 st)).setCell ⟨w.heap.size + 1, 4, none⟩ (.int .u64 sc)).setCell ⟨w.heap.size + 1, 5, none⟩ (.string sd)).setCell ⟨w.heap.size + 1, 6, none⟩ (.slice ao3 l.length cap3)) w.heap.size (.slice ao3 l.length cap3) l := Ents.keeps (S := fun k => k = w.heap.size + 1) he4 ((((((((Only.refl (fun k => k = w.heap.size + 1) w4).setCell (p := ⟨w.heap.size + 1, 0, none⟩) (fun _ => rfl) (.int .u64 ht)).setCell (p := ⟨w.heap.size + 1, 1, none⟩) (fun _ => rfl) (.int .i64 hv)).setCell (p := ⟨w.heap.size + 1, 2, none⟩) (fun _ => rfl) (.int .u64 si)).setCell (p := ⟨w.heap.size + 1, 3, none⟩) (fun _ => rfl) (.int .u64 st)).setCell (p := ⟨w.heap.size + 1, 4, none⟩) (fun _ => rfl) (.int .u64 sc)).setCell (p := ⟨w.heap.size + 1, 5, none⟩) (fun _ => rfl) (.string sd)).setCell (p := ⟨w.heap.size + 1, 6, none⟩) (fun _ => rfl) (.slice ao3 l.length cap3)) (fun k hk e => hnr (by rw [hk, e]))
  generalize (((((((w4.setCell ⟨w.heap.size + 1, 0, none⟩ (.int .u64 ht)).setCell ⟨w.heap.size + 1, 1, none⟩ (.int .i64 hv)).setCell ⟨w.heap.size + 1, 2, none⟩ (.int .u64 si)).setCell ⟨w.heap.size + 1, 3, none⟩ (.int .u64 st)).setCell ⟨w.heap.size + 1, 4, none⟩ (.int .u64 sc)).setCell ⟨w.heap.size + 1, 5, none⟩ (.string sd)).setCell ⟨w.heap.size + 1, 6, none⟩ (.slice ao3 l.length cap3)) = w5 at hq5 hn5 he5 ⊢
  clear a0 a1 a2 a3 a4 a5 a6 q0 q1 q2 q3 q4 q5 q6 f0 f1 f2 f3 f4 f5 f6 hp4 hp5 hq4 hn4 he4
  obtain ⟨fs, hfs⟩ := Sto.u_state
  (try simp only [Exit.inBlock, Exit.then])
  refine bodyPost_ret (results_cell_row (P := Try.prog) rfl _ _ (w.heap.size + 1) _ _ _ _ rfl hq5 hfs rfl Sto.size_state) rfl ?_
  exact ⟨_, rfl, he5, hn5⟩
end Go.Proofs.Ytekmjhenhgmpgaa

/- A store's state in plain data, and what a record makes of it. -/
namespace Go.Proofs.Ytekmjhenhgmpgaa
open Go.RowKit
set_option maxRecDepth 100000

structure St where
  hard : Hrd
  snap : Snp
  es : List Ent
namespace Sto
/-- the reader behind a record's kind -/
def r0 (b : ByteArray) : Pk.RD := Pk.numR ⟨nums b, false⟩
def kind (b : ByteArray) : Nat := Pk.numV (nums b)
def hardV (r : Pk.RD) : Hrd := ⟨Pk.numV r.s, (((Pk.numR r).up 7).1 : Int) - 1⟩
def hardR (r : Pk.RD) : Pk.RD := ((Pk.numR r).up 7).2
def entR (r : Pk.RD) : Pk.RD := ((Pk.numR (Pk.numR r)).up 2).2
def entV (r : Pk.RD) : Ent := ⟨Pk.numV r.s, Pk.numV (Pk.numR r).s, (((Pk.numR (Pk.numR r)).up 2).1 : Nat), textOf ((entR r).text 65536).1⟩
def snapV (r : Pk.RD) : Snp := ⟨Pk.numV r.s, Pk.numV (Pk.numR r).s, Pk.numV (Pk.numR (Pk.numR r)).s, textOf ((Pk.numR (Pk.numR (Pk.numR r))).text 65536).1⟩
def cutOff (i : Nat) (l : List Ent) : List Ent := l.takeWhile fun e => decide (e.index < i)
def takeK (s : St) (k : Nat) (r : Pk.RD) : Option St :=
  if k = 1 then (if (hardR r).done = true then some ⟨hardV r, s.snap, s.es⟩ else none)
  else if k = 2 then (if ((entR r).text 65536).2.done = true then some ⟨s.hard, s.snap, s.es ++ [entV r]⟩ else none)
  else if k = 3 then (if (Pk.numR r).done = true then some ⟨s.hard, s.snap, cutOff (Pk.numV r.s) s.es⟩ else none)
  else if k = 4 then (if ((Pk.numR (Pk.numR (Pk.numR r))).text 65536).2.done = true then some ⟨s.hard, snapV r, []⟩ else none)
  else none
def take (s : St) (b : ByteArray) : Option St := takeK s (kind b) (r0 b)
theorem u_elem : Try.prog.underlying 40 = some (.slice (Try.prog.elem 40)) := by kernel_rfl
theorem e_elem : Try.prog.elem 40 = 77 := by kernel_rfl
theorem z_elem (w : World) : (sizeOf (Try.prog.elem 40)).run Try.prog w = .ok 4 w := by
  obtain ⟨i, hi, hz, hsz, hby⟩ := info_parts En.info
  rw [e_elem]
  simp [sizeOf, typeInfo, hi, hsz]
theorem cutOff_take (x : Nat) : ∀ (l : List Ent) (m : Nat), m ≤ l.length → (∀ j, j < m → (l.getD j Ent.zero).index < x) → (m = l.length ∨ ¬ (l.getD m Ent.zero).index < x) → cutOff x l = l.take m
  | [], m, _, _, _ => by simp [cutOff]
  | e :: r, 0, _, _, h => by
    have h' : ¬ e.index < x := by
      rcases h with h | h
      · simp at h
      · simpa using h
    unfold cutOff
    rw [List.takeWhile_cons_of_neg (by simpa using h'), List.take_zero]
  | e :: r, m + 1, hm, hj, h => by
    have h0 : e.index < x := by simpa using hj 0 (by omega)
    have ih := cutOff_take x r m (by simpa using hm) (fun j h' => by simpa using hj (j + 1) (by omega)) (by simpa using h)
    unfold cutOff at ih ⊢
    rw [List.takeWhile_cons_of_pos (by simpa using h0), ih, List.take_succ_cons]
theorem up_le (r : Pk.RD) (L : Nat) : (r.up L).1 ≤ L := by
  unfold Pk.RD.up
  split <;> simp_all
theorem text_le (r : Pk.RD) (L : Nat) : (r.text L).1.length ≤ L := by
  unfold Pk.RD.text
  have := up_le r L
  simp only
  split
  · rw [List.length_take]; omega
  · simp
end Sto

theorem Ents.take {w : World} {base : Nat} {ao : Option Addr} {cap : Nat} {l : List Ent} (h : Ents w base (.slice ao l.length cap) l) (n : Nat) (hn : n ≤ l.length) : Ents w base (.slice ao n cap) (l.take n) := by
  refine ⟨⟨?_, ?_⟩, fun e he => h.2 e (List.mem_of_mem_take he)⟩
  · rw [flat_length]
  · have hl : (l.take n).length = n := by rw [List.length_take]; omega
    have hf : ∀ (l : List Ent) (n : Nat), ((l.take n).flatMap Ent.cells) = (l.flatMap Ent.cells).take (n * 4) := by
      intro l
      induction l with
      | nil => intro n; simp
      | cons e r ih =>
        intro n
        cases n with
        | zero => simp
        | succ n =>
          have h4 : e.cells.length = 4 := rfl
          have e1 : (n + 1) * 4 = e.cells.length + n * 4 := by rw [h4]; omega
          rw [List.take_succ_cons, List.flatMap_cons, List.flatMap_cons, ih, e1, List.take_length_add_append]
    rcases h.1.2 with ⟨h1, h0⟩ | ⟨g, cap', cur, h1, hb, hg, hnc, hm, hsz, ht⟩
    · left
      simp only [Value.slice.injEq] at h1
      obtain ⟨rfl, _, rfl⟩ := h1
      have : n = 0 := by omega
      subst this
      exact ⟨rfl, by rw [List.take_zero]; rfl⟩
    · right
      simp only [Value.slice.injEq] at h1
      obtain ⟨rfl, _, rfl⟩ := h1
      refine ⟨g, cap, cur, by rw [hl], hb, hg, by omega, hm, hsz, ?_⟩
      rw [hl, hf, ← ht, List.take_take, Nat.min_eq_left (by omega)]

/-- block p is a state, of rows of the call's own -/
structure StAt (w : World) (base p : Nat) (s : St) : Prop where
  from_ : base ≤ p
  hard : s.hard.Wf
  snap : s.snap.Wf
  ex : ∃ v, Blk w p (stCells s.hard s.snap v) 42 ∧ Ents w base v s.es
/-- the same, with the row's value -/
structure StV (w : World) (base p : Nat) (s : St) (v : Value) : Prop where
  from_ : base ≤ p
  hard : s.hard.Wf
  snap : s.snap.Wf
  blk : Blk w p (stCells s.hard s.snap v) 42
  row : Ents w base v s.es
theorem StAt.val {w : World} {base p : Nat} {s : St} (h : StAt w base p s) : ∃ v, StV w base p s v := ⟨h.ex.choose, h.from_, h.hard, h.snap, h.ex.choose_spec.1, h.ex.choose_spec.2⟩
theorem StV.at {w : World} {base p : Nat} {s : St} {v : Value} (h : StV w base p s v) : StAt w base p s := ⟨h.from_, h.hard, h.snap, v, h.blk, h.row⟩
/-- what a record's taking answers, with the row's value -/
def TakeEndV (base p : Nat) (s : St) (v : Value) (b : ByteArray) (w : World) (e : Ending) (w' : World) : Prop :=
  Only (fun k => k = p ∨ v.ownBlock = some k) w w' ∧ ((∃ s' v', Sto.take s b = some s' ∧ e = .returned (.bool true) ∧ StV w' base p s' v' ∧ ∀ k, v'.ownBlock = some k → v.ownBlock = some k ∨ w.heap.size ≤ k) ∨ (Sto.take s b = none ∧ e = .returned (.bool false)))
/-- what a record's taking answers -/
def TakeEnd (base p : Nat) (s : St) (b : ByteArray) (w : World) (e : Ending) (w' : World) : Prop :=
  Only (fun k => base ≤ k) w w' ∧ ((∃ s', Sto.take s b = some s' ∧ e = .returned (.bool true) ∧ StAt w' base p s') ∨ (Sto.take s b = none ∧ e = .returned (.bool false)))
end Go.Proofs.Ytekmjhenhgmpgaa

/- A record's bytes, into the state. -/
namespace Go.Proofs.Ytekmjhenhgmpgaa
open Go.RowKit
set_option maxRecDepth 100000

theorem i64_wf {x : Int} (h0 : -9223372036854775808 ≤ x) (h1 : x ≤ 9223372036854775807) : (Lit.int .i64 x).wf = true := WalkArith.wf_i64 ⟨h0, h1⟩
theorem ReaderAt.keeps {S : Nat → Prop} {w w' : World} {p : Nat} {r : Pk.RD} (h : ReaderAt w p r) (ho : Only S w w') (hs : ¬ S p) : ReaderAt w' p r := ⟨h.1.keeps ho hs, h.2⟩

set_option maxHeartbeats 4000000 in
theorem take_row (w : World) (base p : Nat) (s : St) (v : Value) (hS : StV w base p s v) (hll : s.es.length ≤ 1000000000000) (b : ByteArray) (hb : b.size ≤ 1000000000000) :
    Calls Try.prog 38 #[.pointer (some ⟨p, 0, none⟩), .string b] w (TakeEndV base p s v b w) := by
  obtain ⟨⟨ht, hv⟩, ⟨si, st, sc, sd⟩, es⟩ := s
  obtain ⟨hbase, hh, hs, hB, hE⟩ := hS
  simp only [stCells] at hB hE hll hh hs
  have hpl := hB.lt
  have HK : RowKit.Hid (Sto.kind b = Pk.numV (nums b)) := Lib.hid rfl
  have HR0 : RowKit.Hid (Sto.r0 b = Pk.numR ⟨nums b, false⟩) := Lib.hid rfl
  go_enter Try.func38, Try.ntmps38
  go_wp2_with fail
  refine (rfrom_at w b hb).mono ?_
  rintro e w1 ⟨rfl, hR1, hO1⟩
  have hzr := hR1.1.lt
  have hne : p ≠ w.heap.size := by omega
  generalize hqe : w.heap.size = q at hR1 hpl hne hzr ⊢
  have hqw : w.heap.size ≤ q := by omega
  have hqb : base ≤ q := by omega
  clear hqe
  go_wp2_with fail
  refine (rnum_at w1 q _ hR1).mono ?_
  rintro e w2 ⟨rfl, hR2, hO2⟩
  simp only at hR2 ⊢
  rw [← HK.out]
  rw [← HR0.out] at hR2
  have hB2 := (hB.keeps hO1 (fun h => h)).keeps hO2 hne
  have hO : Only NoBlock w w2 := hO1.andThen hO2 (fun k hk h => by have h' : k = q := h; omega)
  have hE2 : Ents w2 base v es := (hE.keeps hO1 (fun _ _ h => h)).keeps hO2 (fun k hk h => by have h' : k = q := h; have := World.ownsRow.lt hE.1 k hk; omega)
  have hvq : ∀ k, v.ownBlock = some k → k ≠ q := fun k hk h => by have := World.ownsRow.lt hE.1 k hk; omega
  have hvp : v.ownBlock ≠ some p := hE.apart hB (by decide)
  clear hB hE hO1 hO2 hR1 HK
  have HT : RowKit.Hid (Sto.take ⟨⟨ht, hv⟩, ⟨si, st, sc, sd⟩, es⟩ b = Sto.takeK ⟨⟨ht, hv⟩, ⟨si, st, sc, sd⟩, es⟩ (Sto.kind b) (Sto.r0 b)) := Lib.hid rfl
  generalize Sto.kind b = k at HT ⊢
  generalize Sto.r0 b = r at HT hR2 HR0
  by_cases k1 : k = 1
  · subst k1
    unfold Sto.takeK at HT
    rw [if_pos rfl] at HT
    go_wp2_with fail
    refine (rnum_at w2 q _ hR2).mono ?_
    rintro e w3 ⟨rfl, hR3, hO3⟩
    go_wp2_with fail
    refine (rup_at w3 q _ hR3 7 (by omega)).mono ?_
    rintro e w4 ⟨rfl, hR4, hO4⟩
    have hle := Sto.up_le (Pk.numR r) 7
    have hx := Pk.numV_lt hR2.2.1
    have HV : RowKit.Hid (Sto.hardV r = ⟨Pk.numV r.s, (((Pk.numR r).up 7).1 : Int) - 1⟩) := Lib.hid rfl
    change ReaderAt w4 q (Sto.hardR r) at hR4
    have hO34 := hO3.trans hO4
    clear hR3 hO3 hO4 hR2
    have hB4 := hB2.keeps hO34 hne
    have hE4 : Ents w4 base v es := hE2.keeps hO34 (fun k hk h => hvq k hk h)
    have hO5 : Only NoBlock w w4 := hO.andThen hO34 (fun k hk h => by have h' : k = q := h; omega)
    generalize ((Pk.numR r).up 7).1 = u at hle HV ⊢
    generalize Pk.numV r.s = x at hx HV ⊢
    generalize Sto.hardR r = r4 at HT hR4
    have hw : IntKind.i64.wrap ((u : Int) - 1) = (u : Int) - 1 := IntWalk.i64_in _ (by omega)
    clear hB2 hE2 hO hO34
    go_upto_region 6 with fail
    have hbE := Blk.made w4 #[.int .u64 x, .int .i64 ((u : Int) - 1)] 37
    have hA := (Only.refl NoBlock w4).alloc (Obj.cells #[.int .u64 x, .int .i64 ((u : Int) - 1)] 37)
    have hpE : p ≠ w4.heap.size := by have := hB4.lt; omega
    have hvE : ∀ k, v.ownBlock = some k → k ≠ w4.heap.size := fun k hk h => by have := World.ownsRow.lt hE4.1 k hk; omega
    generalize w4.heap.size = E at hbE hpE hvE ⊢
    generalize w4.alloc (Obj.cells #[.int .u64 x, .int .i64 ((u : Int) - 1)] 37) = w5 at hbE hA ⊢
    go_wp2_with fail
    refine (rdone_at w5 q _ (hR4.keeps hA (fun h => h))).mono ?_
    rintro e w6 ⟨rfl, n, rfl⟩
    have hb6 := hbE.drewN n
    have hB6 := (hB4.keeps hA (fun h => h)).drewN n
    have hE6 : Ents (w5.drewN n) base v es := (hE4.keeps hA (fun _ _ h => h)).keeps ((Only.refl NoBlock w5).drewN n) (fun _ _ h => h)
    have hO6 := (hO5.trans hA).drewN n
    clear hbE hA hB4 hE4 hO5 hR4
    generalize w5.drewN n = w6 at hb6 hB6 hE6 hO6 ⊢
    cases hdn : r4.done with
    | false =>
      rw [hdn, if_neg (by decide)] at HT
      go_wp2_with fail
      go_ret
      exact ⟨hO6.of_no, .inr ⟨HT.out, rfl⟩⟩
    | true =>
      rw [hdn, if_pos rfl, HV.out] at HT
      clear hdn HV
      have c0 := hB6.cell 0
      have c1 := hB6.cell 1
      have f0 := hB6.free 0
      have f1 := hB6.free 1
      have e0 := hb6.cell 0
      have e1 := hb6.cell 1
      simp only [List.getElem?_toArray, List.getElem?_cons_succ, List.getElem?_cons_zero] at c0 c1 e0 e1
      go_wp2_with fail
      go_ret
      refine ⟨(hO6.of_no.setCell (p := ⟨p, 0, none⟩) (fun _ => .inl rfl) _).setCell (p := ⟨p, 1, none⟩) (fun _ => .inl rfl) _, .inl ⟨_, v, HT.out, rfl, ⟨hbase, ⟨hx, i64_wf (x := (u : Int) - 1) (by omega) (by omega)⟩, hs, (hB6.setCell 0 _).setCell 1 _, ?_⟩, fun k hk => .inl hk⟩⟩
      exact hE6.keeps (S := fun k => k = p) (((Only.refl (fun k => k = p) w6).setCell (p := ⟨p, 0, none⟩) (fun _ => rfl) _).setCell (p := ⟨p, 1, none⟩) (fun _ => rfl) _) (fun k hk h => hvp (by rw [hk, h]))
  by_cases k2 : k = 2
  · subst k2
    unfold Sto.takeK at HT
    rw [if_neg (by decide), if_pos rfl] at HT
    clear k1
    go_wp2_with fail
    refine (rnum_at w2 q _ hR2).mono ?_
    rintro e w3 ⟨rfl, hR3, hO3⟩
    go_wp2_with fail
    refine (rnum_at w3 q _ hR3).mono ?_
    rintro e w4 ⟨rfl, hR4, hO4⟩
    go_wp2_with fail
    refine (rup_at w4 q _ hR4 2 (by omega)).mono ?_
    rintro e w5 ⟨rfl, hR5, hO5⟩
    change ReaderAt w5 q (Sto.entR r) at hR5
    go_wp2_with fail
    refine (rtext_at w5 q _ hR5 65536 (by omega)).mono ?_
    rintro e wL ⟨rfl, hRL, hOL⟩
    have hle := Sto.up_le (Pk.numR (Pk.numR r)) 2
    have hle2 : (textOf ((Sto.entR r).text 65536).1).size ≤ 65536 := by rw [textOf_size]; exact Sto.text_le _ _
    have hx := Pk.numV_lt hR2.2.1
    have hy := Pk.numV_lt hR3.2.1
    have HV : RowKit.Hid (Sto.entV r = ⟨Pk.numV r.s, Pk.numV (Pk.numR r).s, (((Pk.numR (Pk.numR r)).up 2).1 : Nat), textOf ((Sto.entR r).text 65536).1⟩) := Lib.hid rfl
    have hOr := ((hO3.trans hO4).trans hO5).trans hOL
    clear hR3 hO3 hO4 hR2 hR4 hR5 hO5 hOL
    have hR4 := hRL
    clear hRL
    have hB4 := hB2.keeps hOr hne
    have hE4 : Ents wL base v es := hE2.keeps hOr (fun k hk h => hvq k hk h)
    have hO5 : Only NoBlock w wL := hO.andThen hOr (fun k hk h => by have h' : k = q := h; omega)
    generalize ((Pk.numR (Pk.numR r)).up 2).1 = u at hle HV ⊢
    generalize textOf ((Sto.entR r).text 65536).1 = d at hle2 HV ⊢
    generalize Pk.numV (Pk.numR r).s = y at hy HV ⊢
    generalize Pk.numV r.s = x at hx HV ⊢
    generalize ((Sto.entR r).text 65536).2 = r4 at HT hR4
    clear hB2 hE2 hO hOr
    go_upto_region 11 with fail
    have hbE := Blk.made wL #[.int .u64 x, .int .u64 y, .int .i64 (u : Int), .string d] 77
    have hA := (Only.refl NoBlock wL).alloc (Obj.cells #[.int .u64 x, .int .u64 y, .int .i64 (u : Int), .string d] 77)
    have hpE : p ≠ wL.heap.size := by have := hB4.lt; omega
    have hvE : ∀ k, v.ownBlock = some k → k ≠ wL.heap.size := fun k hk h => by have := World.ownsRow.lt hE4.1 k hk; omega
    generalize wL.heap.size = E at hbE hpE hvE ⊢
    generalize wL.alloc (Obj.cells #[.int .u64 x, .int .u64 y, .int .i64 (u : Int), .string d] 77) = wM at hbE hA ⊢
    go_wp2_with fail
    refine (rdone_at wM q _ (hR4.keeps hA (fun h => h))).mono ?_
    rintro e wN ⟨rfl, n, rfl⟩
    have hb6 := hbE.drewN n
    have hB6 := (hB4.keeps hA (fun h => h)).drewN n
    have hE6 : Ents (wM.drewN n) base v es := (hE4.keeps hA (fun _ _ h => h)).keeps ((Only.refl NoBlock wM).drewN n) (fun _ _ h => h)
    have hO6 := (hO5.trans hA).drewN n
    clear hbE hA hB4 hE4 hO5 hR4
    generalize wM.drewN n = w6 at hb6 hB6 hE6 hO6 ⊢
    cases hdn : r4.done with
    | false =>
      rw [hdn, if_neg (by decide)] at HT
      go_wp2_with fail
      go_ret
      exact ⟨hO6.of_no, .inr ⟨HT.out, rfl⟩⟩
    | true =>
      rw [hdn, if_pos rfl, HV.out] at HT
      clear hdn HV
      have hwf : Ent.Wf ⟨x, y, (u : Int), d⟩ := ⟨hx, hy, WalkArith.wf_i64 (n := (u : Int)) ⟨by omega, by omega⟩, Nat.le_trans hle2 (by decide)⟩
      obtain ⟨ao, cap, rfl⟩ := hE6.shape
      have x0 : w6.cell? ⟨E, 0, none⟩ = some (.int .u64 x) := by rw [hb6.cell]; rfl
      have x1 : w6.cell? ⟨E, 1, none⟩ = some (.int .u64 y) := by rw [hb6.cell]; rfl
      have x2 : w6.cell? ⟨E, 2, none⟩ = some (.int .i64 (u : Int)) := by rw [hb6.cell]; rfl
      have x3 : w6.cell? ⟨E, 3, none⟩ = some (.string d) := by rw [hb6.cell]; rfl
      have c6 := hB6.cell 6
      have f6 := hB6.free 6
      simp only [List.getElem?_toArray, List.getElem?_cons_succ, List.getElem?_cons_zero] at c6
      have hpl6 := hB6.lt
      have HSZ := Lib.hid hO6.size
      have hlen2 : (es ++ [(⟨x, y, (u : Int), d⟩ : Ent)]).length = es.length + 1 := by simp
      have HLK2 := Lib.hid hlen2
      clear hlen2
      go_upto_region 13 with fail
      go_region_law (refine step_append_entw _ rfl _ _ rfl base _ es ⟨x, y, (u : Int), d⟩ hwf w6.heap.size 1 rfl (hE6.keeps (((Only.refl NoBlock _).alloc _).drew) (fun _ _ h => h)) rfl ?_ ?_ ?_ ?_ ?_ ?_ ?_; (exact (ent_made w6 ⟨x, y, (u : Int), d⟩ _).1); (exact (ent_made w6 ⟨x, y, (u : Int), d⟩ _).2.1); (exact (ent_made w6 ⟨x, y, (u : Int), d⟩ _).2.2.1); (exact (ent_made w6 ⟨x, y, (u : Int), d⟩ _).2.2.2); omega; (simp; omega); intro v7 w7 he7 hg7 hv7; have hp7 : Blk w7 p _ _ := (hg7.block _ (by simp; omega) (fun e => hvp e.symm)).trans (hB6.alloc _); have c7 := hp7.cell 6; have f7 := hp7.free 6; simp only [List.getElem?_toArray, List.getElem?_cons_succ, List.getElem?_cons_zero] at c7; obtain ⟨ao7, cap7, rfl⟩ := he7.shape; rw [HLK2.out] at he7 hv7)
      all_goals
        have hE7 := hE6.1
        have hB8 := hp7.setCell 6 (.slice ao7 (es.length + 1) cap7)
        have hO8 : Only (fun k => k = p ∨ (Value.slice ao es.length cap).ownBlock = some k) w (w7.setCell ⟨p, 6, none⟩ (.slice ao7 (es.length + 1) cap7)) := ((((hO6.alloc _).drew).of_no (S := fun k => k = p ∨ (Value.slice ao es.length cap).ownBlock = some k)).grown hg7 (fun j hj _ => .inr hj)).setCell (p := ⟨p, 6, none⟩) (fun _ => .inl rfl) _
        have hE8 : Ents (w7.setCell ⟨p, 6, none⟩ (.slice ao7 (es.length + 1) cap7)) base (.slice ao7 (es.length + 1) cap7) (es ++ [⟨x, y, (u : Int), d⟩]) := Ents.keeps (S := fun k => k = p) he7 ((Only.refl (fun k => k = p) w7).setCell (p := ⟨p, 6, none⟩) (fun _ => rfl) _) (fun j hj e => he7.apart hp7 (by decide) (by rw [hj, e]))
        generalize w7.setCell ⟨p, 6, none⟩ (.slice ao7 (es.length + 1) cap7) = w8 at hB8 hO8 hE8 ⊢
        clear hp7 c7 f7 he7 hg7 x0 x1 x2 x3 c6 f6 hE7 hB6 hb6 hE6 hO6
        go_wp2_with fail
        go_ret
        exact ⟨hO8, .inl ⟨_, _, HT.out, rfl, ⟨hbase, hh, hs, hB8, hE8⟩, fun k hk => hv7.elim (fun e => .inl (e ▸ hk)) (fun e => .inr (by rw [e] at hk; cases hk; have := HSZ.out; simp; omega))⟩⟩
  by_cases k3 : k = 3
  · subst k3
    unfold Sto.takeK at HT
    rw [if_neg (by decide), if_neg (by decide), if_pos rfl] at HT
    clear k1 k2
    go_wp2_with fail
    refine (rnum_at w2 q _ hR2).mono ?_
    rintro e w3 ⟨rfl, hR3, hO3⟩
    have hx := Pk.numV_lt hR2.2.1
    have hB4 := hB2.keeps hO3 hne
    have hE4 : Ents w3 base v es := hE2.keeps hO3 (fun k hk h => hvq k hk h)
    have hO5 : Only NoBlock w w3 := hO.andThen hO3 (fun k hk h => by have h' : k = q := h; omega)
    generalize Pk.numV r.s = x at hx HT ⊢
    generalize Pk.numR r = r4 at HT hR3
    clear hB2 hE2 hO hO3 hR2 HR0
    go_wp2_with fail
    refine (rdone_at w3 q _ hR3).mono ?_
    rintro e w4 ⟨rfl, n, rfl⟩
    have hB6 := hB4.drewN n
    have hE6 : Ents (w3.drewN n) base v es := hE4.keeps ((Only.refl NoBlock w3).drewN n) (fun _ _ h => h)
    have hO6 := hO5.drewN n
    clear hB4 hE4 hO5 hR3
    generalize w3.drewN n = w6 at hB6 hE6 hO6 ⊢
    cases hdn : r4.done with
    | false =>
      rw [hdn, if_neg (by decide)] at HT
      go_wp2_with fail
      go_ret
      exact ⟨hO6.of_no, .inr ⟨HT.out, rfl⟩⟩
    | true =>
      rw [hdn, if_pos rfl] at HT
      clear hdn
      obtain ⟨ao, cap, rfl⟩ := hE6.shape
      obtain ⟨hin, hcl, hcm⟩ := hE6.read (by omega)
      have c6 := hB6.cell 6
      have f6 := hB6.free 6
      simp only [List.getElem?_toArray, List.getElem?_cons_succ, List.getElem?_cons_zero] at c6
      go_wp2_with fail
      go_loopw [9] (fun v9 wr => ∃ m : Nat, m ≤ es.length ∧ v9 = .int .i64 m ∧ wr = w6 ∧ RowKit.Hid (∀ j, j < m → (es.getD j Ent.zero).index < x)) (fun v9 _ => es.length - (intOf v9).toNat)
      case atStart => exact ⟨0, by omega, rfl, rfl, Lib.hid (fun j hj => by omega)⟩
      case round =>
        obtain ⟨m, hm, rfl, rfl, HM⟩ := hrel
        by_cases hlt : m < es.length
        · obtain ⟨bb, off, rfl, e0, e1, -, -⟩ := hin.cell m hlt
          by_cases hy : (es.getD m Ent.zero).index < x
          · have HM2 : RowKit.Hid (∀ j, j < m + 1 → (es.getD j Ent.zero).index < x) := Lib.hid (fun j hj => by
              by_cases hjm : j < m
              · exact HM.out j hjm
              · obtain rfl : j = m := by omega
                exact hy)
            generalize (es.getD m Ent.zero).index = y at e1 hy
            generalize (es.getD m Ent.zero).term = yt at e0
            have d1 : decide (y < x) = true := by simpa using hy
            clear hy
            go_wp2_with fail
            go_roundw
            case rel => exact ⟨m + 1, by omega, by go_num, trivial, HM2⟩
            case measure => simp [intOf]; omega
          · have HCT : RowKit.Hid (Sto.cutOff x es = es.take m) := Lib.hid (Sto.cutOff_take x es m hm HM.out (.inr hy))
            generalize (es.getD m Ent.zero).index = y at e1 hy
            generalize (es.getD m Ent.zero).term = yt at e0
            have d1 : decide (y < x) = false := by simpa using hy
            clear hy
            have HT2 : RowKit.Hid (Sto.take ⟨⟨ht, hv⟩, ⟨si, st, sc, sd⟩, es⟩ b = some ⟨⟨ht, hv⟩, ⟨si, st, sc, sd⟩, es.take m⟩) := Lib.hid (by rw [HT.out, HCT.out])
            have hE7 := hE6.take m hm
            have hlt7 : (es.take m).length = m := by rw [List.length_take]; omega
            clear HT HCT HM
            go_wp2_with (first
              | (refine wpList_slice_h wr rfl _ _ _ rfl 4 Sto.u_elem Sto.z_elem _ es.length cap m .i64 rfl rfl (by omega) ?_))
            have hB8 := hB6.setCell 6 (.slice (some ⟨bb, off, none⟩) m cap)
            have hO8 : Only (fun k => k = p ∨ (Value.slice (some ⟨bb, off, none⟩) es.length cap).ownBlock = some k) w (wr.setCell ⟨p, 6, none⟩ (.slice (some ⟨bb, off, none⟩) m cap)) := (hO6.of_no (S := fun k => k = p ∨ (Value.slice (some ⟨bb, off, none⟩) es.length cap).ownBlock = some k)).setCell (p := ⟨p, 6, none⟩) (fun _ => .inl rfl) _
            have hE8 : Ents (wr.setCell ⟨p, 6, none⟩ (.slice (some ⟨bb, off, none⟩) m cap)) base (.slice (some ⟨bb, off, none⟩) m cap) (es.take m) := Ents.keeps (S := fun k => k = p) hE7 ((Only.refl (fun k => k = p) wr).setCell (p := ⟨p, 6, none⟩) (fun _ => rfl) _) (fun j hj e => hE7.apart hB6 (by decide) (by rw [hj, e]))
            go_ret
            exact ⟨hO8, .inl ⟨_, _, HT2.out, rfl, ⟨hbase, hh, hs, hB8, hE8⟩, fun k hk => .inl hk⟩⟩
        · obtain rfl : m = es.length := by omega
          have HCT : RowKit.Hid (Sto.cutOff x es = es.take es.length) := Lib.hid (Sto.cutOff_take x es es.length hm HM.out (.inl rfl))
          have HT2 : RowKit.Hid (Sto.take ⟨⟨ht, hv⟩, ⟨si, st, sc, sd⟩, es⟩ b = some ⟨⟨ht, hv⟩, ⟨si, st, sc, sd⟩, es.take es.length⟩) := Lib.hid (by rw [HT.out, HCT.out])
          have hE7 := hE6.take es.length hm
          have hlt7 : (es.take es.length).length = es.length := by rw [List.length_take]; omega
          clear HT HCT HM
          go_wp2_with (first
            | (refine wpList_slice_h wr rfl _ _ _ rfl 4 Sto.u_elem Sto.z_elem _ es.length cap es.length .i64 rfl rfl (by omega) ?_))
          have hB8 := hB6.setCell 6 (.slice ao es.length cap)
          have hO8 : Only (fun k => k = p ∨ (Value.slice ao es.length cap).ownBlock = some k) w (wr.setCell ⟨p, 6, none⟩ (.slice ao es.length cap)) := (hO6.of_no (S := fun k => k = p ∨ (Value.slice ao es.length cap).ownBlock = some k)).setCell (p := ⟨p, 6, none⟩) (fun _ => .inl rfl) _
          have hE8 : Ents (wr.setCell ⟨p, 6, none⟩ (.slice ao es.length cap)) base (.slice ao es.length cap) (es.take es.length) := Ents.keeps (S := fun k => k = p) hE7 ((Only.refl (fun k => k = p) wr).setCell (p := ⟨p, 6, none⟩) (fun _ => rfl) _) (fun j hj e => hE7.apart hB6 (by decide) (by rw [hj, e]))
          go_ret
          exact ⟨hO8, .inl ⟨_, _, HT2.out, rfl, ⟨hbase, hh, hs, hB8, hE8⟩, fun k hk => .inl hk⟩⟩
  by_cases k4 : k = 4
  · subst k4
    unfold Sto.takeK at HT
    rw [if_neg (by decide), if_neg (by decide), if_neg (by decide), if_pos rfl] at HT
    clear k1 k2 k3
    go_wp2_with fail
    refine (rnum_at w2 q _ hR2).mono ?_
    rintro e w3 ⟨rfl, hR3, hO3⟩
    go_wp2_with fail
    refine (rnum_at w3 q _ hR3).mono ?_
    rintro e w4 ⟨rfl, hR4, hO4⟩
    go_wp2_with fail
    refine (rnum_at w4 q _ hR4).mono ?_
    rintro e w5 ⟨rfl, hR5, hO5⟩
    go_wp2_with fail
    refine (rtext_at w5 q _ hR5 65536 (by omega)).mono ?_
    rintro e wL ⟨rfl, hRL, hOL⟩
    have hle2 : (textOf ((Pk.numR (Pk.numR (Pk.numR r))).text 65536).1).size ≤ 65536 := by rw [textOf_size]; exact Sto.text_le _ _
    have hx := Pk.numV_lt hR2.2.1
    have hy := Pk.numV_lt hR3.2.1
    have hz := Pk.numV_lt hR4.2.1
    have HV : RowKit.Hid (Sto.snapV r = ⟨Pk.numV r.s, Pk.numV (Pk.numR r).s, Pk.numV (Pk.numR (Pk.numR r)).s, textOf ((Pk.numR (Pk.numR (Pk.numR r))).text 65536).1⟩) := Lib.hid rfl
    have hOr := ((hO3.trans hO4).trans hO5).trans hOL
    clear hR3 hO3 hO4 hR2 hR4 hR5 hO5 hOL
    have hR4 := hRL
    clear hRL
    have hB4 := hB2.keeps hOr hne
    have hE4 : Ents wL base v es := hE2.keeps hOr (fun k hk h => hvq k hk h)
    have hO5 : Only NoBlock w wL := hO.andThen hOr (fun k hk h => by have h' : k = q := h; omega)
    generalize textOf ((Pk.numR (Pk.numR (Pk.numR r))).text 65536).1 = d at hle2 HV ⊢
    generalize ((Pk.numR (Pk.numR (Pk.numR r))).text 65536).2 = r4 at HT hR4
    generalize Pk.numV (Pk.numR (Pk.numR r)).s = z at hz HV ⊢
    generalize Pk.numV (Pk.numR r).s = y at hy HV ⊢
    generalize Pk.numV r.s = x at hx HV ⊢
    clear hB2 hE2 hO hOr
    go_upto_region 24 with fail
    have hbE := Blk.made wL #[.int .u64 x, .int .u64 y, .int .u64 z, .string d] 39
    have hA := (Only.refl NoBlock wL).alloc (Obj.cells #[.int .u64 x, .int .u64 y, .int .u64 z, .string d] 39)
    have hpE : p ≠ wL.heap.size := by have := hB4.lt; omega
    have hvE : ∀ k, v.ownBlock = some k → k ≠ wL.heap.size := fun k hk h => by have := World.ownsRow.lt hE4.1 k hk; omega
    generalize wL.heap.size = E at hbE hpE hvE ⊢
    generalize wL.alloc (Obj.cells #[.int .u64 x, .int .u64 y, .int .u64 z, .string d] 39) = wM at hbE hA ⊢
    go_wp2_with fail
    refine (rdone_at wM q _ (hR4.keeps hA (fun h => h))).mono ?_
    rintro e wN ⟨rfl, n, rfl⟩
    have hb6 := hbE.drewN n
    have hB6 := (hB4.keeps hA (fun h => h)).drewN n
    have hE6 : Ents (wM.drewN n) base v es := (hE4.keeps hA (fun _ _ h => h)).keeps ((Only.refl NoBlock wM).drewN n) (fun _ _ h => h)
    have hO6 := (hO5.trans hA).drewN n
    clear hbE hA hB4 hE4 hO5 hR4
    generalize wM.drewN n = w6 at hb6 hB6 hE6 hO6 ⊢
    cases hdn : r4.done with
    | false =>
      rw [hdn, if_neg (by decide)] at HT
      go_wp2_with fail
      go_ret
      exact ⟨hO6.of_no, .inr ⟨HT.out, rfl⟩⟩
    | true =>
      rw [hdn, if_pos rfl, HV.out] at HT
      clear hdn HV
      have c2 := hB6.cell 2
      have c3 := hB6.cell 3
      have c4 := hB6.cell 4
      have c5 := hB6.cell 5
      have c6 := hB6.cell 6
      have f2 := hB6.free 2
      have f3 := hB6.free 3
      have f4 := hB6.free 4
      have f5 := hB6.free 5
      have f6 := hB6.free 6
      have e0 := hb6.cell 0
      have e1 := hb6.cell 1
      have e2 := hb6.cell 2
      have e3 := hb6.cell 3
      simp only [List.getElem?_toArray, List.getElem?_cons_succ, List.getElem?_cons_zero] at c2 c3 c4 c5 c6 e0 e1 e2 e3
      go_wp2_with fail
      go_ret
      exact ⟨(((((hO6.of_no.setCell (p := ⟨p, 2, none⟩) (fun _ => .inl rfl) _).setCell (p := ⟨p, 3, none⟩) (fun _ => .inl rfl) _).setCell (p := ⟨p, 4, none⟩) (fun _ => .inl rfl) _).setCell (p := ⟨p, 5, none⟩) (fun _ => .inl rfl) _).setCell (p := ⟨p, 6, none⟩) (fun _ => .inl rfl) _), .inl ⟨_, .slice none 0 0, HT.out, rfl, ⟨hbase, hh, ⟨hx, hy, hz, Nat.le_trans hle2 (by decide)⟩, (((((hB6.setCell 2 _).setCell 3 _).setCell 4 _).setCell 5 _).setCell 6 _), Ents.nil _ _⟩, fun k hk => by cases hk⟩⟩
  unfold Sto.takeK at HT
  rw [if_neg k1, if_neg k2, if_neg k3, if_neg k4] at HT
  have d1 : ((k : Int) == 1) = false := by simp; omega
  have d2 : ((k : Int) == 2) = false := by simp; omega
  have d3 : ((k : Int) == 3) = false := by simp; omega
  have d4 : ((k : Int) == 4) = false := by simp; omega
  clear k1 k2 k3 k4
  go_wp2_with fail
  go_ret
  exact ⟨hO.of_no, .inr ⟨HT.out, rfl⟩⟩
theorem take_at (w : World) (base p : Nat) (s : St) (hS : StAt w base p s) (hll : s.es.length ≤ 1000000000000) (b : ByteArray) (hb : b.size ≤ 1000000000000) :
    Calls Try.prog 38 #[.pointer (some ⟨p, 0, none⟩), .string b] w (TakeEnd base p s b w) := by
  obtain ⟨v, hV⟩ := hS.val
  refine (take_row w base p s v hV hll b hb).mono ?_
  rintro e w' ⟨hO, hE⟩
  refine ⟨hO.mono (fun k hk => hk.elim (fun e => by rw [e]; exact hV.from_) (fun e => (World.ownsRow.lt hV.row.1 k e).1)), ?_⟩
  rcases hE with ⟨s', v', h1, h2, h3, -⟩ | h
  · exact .inl ⟨s', h1, h2, h3.at⟩
  · exact .inr h
end Go.Proofs.Ytekmjhenhgmpgaa

/- What a store tells as its state. -/
namespace Go.Proofs.Ytekmjhenhgmpgaa
open Go.RowKit
set_option maxRecDepth 100000

/-- block t is a store: a log, a state, a row of the call's own -/
structure StoreAt (w : World) (base t g : Nat) (s : St) : Prop where
  hard : s.hard.Wf
  snap : s.snap.Wf
  ex : ∃ v, Blk w t #[.pointer (some ⟨g, 0, none⟩), .int .u64 s.hard.term, .int .i64 s.hard.vote, .int .u64 s.snap.index, .int .u64 s.snap.term, .int .u64 s.snap.config, .string s.snap.data, v] 100 ∧ Ents w base v s.es
/-- a state as a value, with a row of the call's own -/
def StVal (w : World) (base : Nat) (s : St) (x : Value) : Prop := ∃ v, x = .agg (stCells s.hard s.snap v) ∧ Ents w base v s.es

set_option maxHeartbeats 1600000 in
theorem state_at (w : World) (base t g : Nat) (s : St) (h : StoreAt w base t g s) (hll : s.es.length ≤ 1000000000000) :
    Calls Try.prog 17 #[.pointer (some ⟨t, 0, none⟩)] w fun e w' => ∃ x, e = .returned x ∧ StVal w' w.heap.size s x ∧ Only NoBlock w w' := by
  obtain ⟨⟨ht, hv⟩, ⟨si, st, sc, sd⟩, es⟩ := s
  obtain ⟨hh, hs, v, hB, hE⟩ := h
  simp only at hh hs hB hE hll
  obtain ⟨ao, cap, rfl⟩ := hE.shape
  have hr := Blk.made w #[.int .u64 0, .int .i64 0, .int .u64 0, .int .u64 0, .int .u64 0, .string { data := #[] }, .slice none 0 0] 42
  have hn := (Only.refl NoBlock w).alloc (Obj.cells #[.int .u64 0, .int .i64 0, .int .u64 0, .int .u64 0, .int .u64 0, .string { data := #[] }, .slice none 0 0] 42)
  have hB1 := hB.alloc (Obj.cells #[.int .u64 0, .int .i64 0, .int .u64 0, .int .u64 0, .int .u64 0, .string { data := #[] }, .slice none 0 0] 42)
  have hE1 : Ents (w.alloc (Obj.cells #[.int .u64 0, .int .i64 0, .int .u64 0, .int .u64 0, .int .u64 0, .string { data := #[] }, .slice none 0 0] 42)) base (.slice ao es.length cap) es := hE.keeps ((Only.refl NoBlock w).alloc (Obj.cells #[.int .u64 0, .int .i64 0, .int .u64 0, .int .u64 0, .int .u64 0, .string { data := #[] }, .slice none 0 0] 42)) (fun _ _ h => h)
  have hz := hn.size
  have hz2 : w.heap.size < (w.alloc (Obj.cells #[.int .u64 0, .int .i64 0, .int .u64 0, .int .u64 0, .int .u64 0, .string { data := #[] }, .slice none 0 0] 42)).heap.size := by simp
  go_enter Try.func17, Try.ntmps17
  go_upto_region 1 with fail
  generalize w.alloc (Obj.cells #[.int .u64 0, .int .i64 0, .int .u64 0, .int .u64 0, .int .u64 0, .string { data := #[] }, .slice none 0 0] 42) = w1 at hr hn hB1 hE1 hz hz2 ⊢
  obtain ⟨hin, hcl, hcm⟩ := hE1.read (by omega)
  have c0 : w1.cell? ⟨t, 0, none⟩ = some (.pointer (some ⟨g, 0, none⟩)) := by rw [hB1.cell]; rfl
  have c1 : w1.cell? ⟨t, 1, none⟩ = some (.int .u64 ht) := by rw [hB1.cell]; rfl
  have c2 : w1.cell? ⟨t, 2, none⟩ = some (.int .i64 hv) := by rw [hB1.cell]; rfl
  have c3 : w1.cell? ⟨t, 3, none⟩ = some (.int .u64 si) := by rw [hB1.cell]; rfl
  have c4 : w1.cell? ⟨t, 4, none⟩ = some (.int .u64 st) := by rw [hB1.cell]; rfl
  have c5 : w1.cell? ⟨t, 5, none⟩ = some (.int .u64 sc) := by rw [hB1.cell]; rfl
  have c6 : w1.cell? ⟨t, 6, none⟩ = some (.string sd) := by rw [hB1.cell]; rfl
  have c7 : w1.cell? ⟨t, 7, none⟩ = some (.slice ao es.length cap) := by rw [hB1.cell]; rfl
  go_wp2_with fail
  refine (copied_at w1 ⟨ht, hv⟩ ⟨si, st, sc, sd⟩ ao cap es hin hll).mono ?_
  rintro e w2 ⟨v2, rfl, hE2, hO2⟩
  have hr2 := hr.keeps hO2 (fun h => h)
  have hn2 := hn.trans hO2
  obtain ⟨ao2, cap2, rfl⟩ := hE2.shape
  have hnr : (Value.slice ao2 es.length cap2).ownBlock ≠ some w.heap.size := fun hk => by have := (World.ownsRow.lt hE2.1 _ hk).1; omega
  clear hB hE hB1 hE1 hr hn hz hin hcl hcm c0 c1 c2 c3 c4 c5 c6 c7
  have q0 : w2.cell? ⟨w.heap.size, 0, none⟩ = some (.int .u64 0) := by rw [hr2.cell]; rfl
  have f0 := hr2.free 0
  have q1 : w2.cell? ⟨w.heap.size, 1, none⟩ = some (.int .i64 0) := by rw [hr2.cell]; rfl
  have f1 := hr2.free 1
  have q2 : w2.cell? ⟨w.heap.size, 2, none⟩ = some (.int .u64 0) := by rw [hr2.cell]; rfl
  have f2 := hr2.free 2
  have q3 : w2.cell? ⟨w.heap.size, 3, none⟩ = some (.int .u64 0) := by rw [hr2.cell]; rfl
  have f3 := hr2.free 3
  have q4 : w2.cell? ⟨w.heap.size, 4, none⟩ = some (.int .u64 0) := by rw [hr2.cell]; rfl
  have f4 := hr2.free 4
  have q5 : w2.cell? ⟨w.heap.size, 5, none⟩ = some (.string { data := #[] }) := by rw [hr2.cell]; rfl
  have f5 := hr2.free 5
  have q6 : w2.cell? ⟨w.heap.size, 6, none⟩ = some (.slice none 0 0) := by rw [hr2.cell]; rfl
  have f6 := hr2.free 6
  go_wp2_with fail
  have hr3 : Blk (((((((w2.setCell ⟨w.heap.size, 0, none⟩ (.int .u64 ht)).setCell ⟨w.heap.size, 1, none⟩ (.int .i64 hv)).setCell ⟨w.heap.size, 2, none⟩ (.int .u64 si)).setCell ⟨w.heap.size, 3, none⟩ (.int .u64 st)).setCell ⟨w.heap.size, 4, none⟩ (.int .u64 sc)).setCell ⟨w.heap.size, 5, none⟩ (.string sd)).setCell ⟨w.heap.size, 6, none⟩ (.slice ao2 es.length cap2)) w.heap.size #[.int .u64 ht, .int .i64 hv, .int .u64 si, .int .u64 st, .int .u64 sc, .string sd, .slice ao2 es.length cap2] 42 := (((((((hr2.setCell 0 (.int .u64 ht)).setCell 1 (.int .i64 hv)).setCell 2 (.int .u64 si)).setCell 3 (.int .u64 st)).setCell 4 (.int .u64 sc)).setCell 5 (.string sd)).setCell 6 (.slice ao2 es.length cap2))
  have hn3 : Only NoBlock w (((((((w2.setCell ⟨w.heap.size, 0, none⟩ (.int .u64 ht)).setCell ⟨w.heap.size, 1, none⟩ (.int .i64 hv)).setCell ⟨w.heap.size, 2, none⟩ (.int .u64 si)).setCell ⟨w.heap.size, 3, none⟩ (.int .u64 st)).setCell ⟨w.heap.size, 4, none⟩ (.int .u64 sc)).setCell ⟨w.heap.size, 5, none⟩ (.string sd)).setCell ⟨w.heap.size, 6, none⟩ (.slice ao2 es.length cap2)) := (((((((hn2.setCell (p := ⟨w.heap.size, 0, none⟩) (fun h => absurd h (by simp)) (.int .u64 ht)).setCell (p := ⟨w.heap.size, 1, none⟩) (fun h => absurd h (by simp)) (.int .i64 hv)).setCell (p := ⟨w.heap.size, 2, none⟩) (fun h => absurd h (by simp)) (.int .u64 si)).setCell (p := ⟨w.heap.size, 3, none⟩) (fun h => absurd h (by simp)) (.int .u64 st)).setCell (p := ⟨w.heap.size, 4, none⟩) (fun h => absurd h (by simp)) (.int .u64 sc)).setCell (p := ⟨w.heap.size, 5, none⟩) (fun h => absurd h (by simp)) (.string sd)).setCell (p := ⟨w.heap.size, 6, none⟩) (fun h => absurd h (by simp)) (.slice ao2 es.length cap2))
  have hE3 : Ents (((((((w2.setCell ⟨w.heap.size, 0, none⟩ (.int .u64 ht)).setCell ⟨w.heap.size, 1, none⟩ (.int .i64 hv)).setCell ⟨w.heap.size, 2, none⟩ (.int .u64 si)).setCell ⟨w.heap.size, 3, none⟩ (.int .u64 st)).setCell ⟨w.heap.size, 4, none⟩ (.int .u64 sc)).setCell ⟨w.heap.size, 5, none⟩ (.string sd)).setCell ⟨w.heap.size, 6, none⟩ (.slice ao2 es.length cap2)) w1.heap.size (.slice ao2 es.length cap2) es := Ents.keeps (S := fun k => k = w.heap.size) hE2 ((((((((Only.refl (fun k => k = w.heap.size) w2).setCell (p := ⟨w.heap.size, 0, none⟩) (fun _ => rfl) (.int .u64 ht)).setCell (p := ⟨w.heap.size, 1, none⟩) (fun _ => rfl) (.int .i64 hv)).setCell (p := ⟨w.heap.size, 2, none⟩) (fun _ => rfl) (.int .u64 si)).setCell (p := ⟨w.heap.size, 3, none⟩) (fun _ => rfl) (.int .u64 st)).setCell (p := ⟨w.heap.size, 4, none⟩) (fun _ => rfl) (.int .u64 sc)).setCell (p := ⟨w.heap.size, 5, none⟩) (fun _ => rfl) (.string sd)).setCell (p := ⟨w.heap.size, 6, none⟩) (fun _ => rfl) (.slice ao2 es.length cap2)) (fun k hk e => hnr (by rw [hk, e]))
  generalize (((((((w2.setCell ⟨w.heap.size, 0, none⟩ (.int .u64 ht)).setCell ⟨w.heap.size, 1, none⟩ (.int .i64 hv)).setCell ⟨w.heap.size, 2, none⟩ (.int .u64 si)).setCell ⟨w.heap.size, 3, none⟩ (.int .u64 st)).setCell ⟨w.heap.size, 4, none⟩ (.int .u64 sc)).setCell ⟨w.heap.size, 5, none⟩ (.string sd)).setCell ⟨w.heap.size, 6, none⟩ (.slice ao2 es.length cap2)) = w3 at hr3 hn3 hE3 ⊢
  obtain ⟨fs, hfs⟩ := Sto.u_state
  (try simp only [Exit.inBlock, Exit.then])
  refine bodyPost_ret (results_cell_row (P := Try.prog) rfl _ _ w.heap.size _ _ _ _ rfl hr3 hfs rfl Sto.size_state) rfl ?_
  exact ⟨_, rfl, ⟨_, rfl, hE3.lower (by omega)⟩, hn3⟩
end Go.Proofs.Ytekmjhenhgmpgaa

/- What records make of a state, one behind the other. -/
namespace Go.Proofs.Ytekmjhenhgmpgaa
open Go.RowKit

namespace Sto
def said : St → List ByteArray → Option St
  | s, [] => some s
  | s, b :: l => match take s b with
    | none => none
    | some s' => said s' l
def first (members : Nat) : St := ⟨⟨0, -1⟩, ⟨0, 0, members, ByteArray.empty⟩, []⟩
theorem cutOff_len (x : Nat) (l : List Ent) : (cutOff x l).length ≤ l.length := by
  unfold cutOff
  exact List.Sublist.length_le (List.takeWhile_sublist _)
theorem take_len {s s' : St} {b : ByteArray} (h : take s b = some s') : s'.es.length ≤ s.es.length + 1 := by
  unfold take takeK at h
  have hc := cutOff_len (Pk.numV (r0 b).s) s.es
  repeat' split at h
  all_goals first
    | cases h; done
    | (cases h; simp; done)
    | (cases h; simp only [List.length_append, List.length_singleton]; omega)
    | (cases h; simp only []; omega)
theorem said_snoc : ∀ (l : List ByteArray) (s : St) (b : ByteArray), said s (l ++ [b]) = (said s l).bind fun s' => take s' b
  | [], s, b => by
    show (match take s b with | none => none | some s' => said s' []) = _
    cases h : take s b <;> simp [said, h]
  | c :: l, s, b => by
    rw [List.cons_append]
    unfold said
    cases h : take s c with
    | none => rfl
    | some s' => exact said_snoc l s' b
theorem said_len : ∀ (l : List ByteArray) (s s' : St), said s l = some s' → s'.es.length ≤ s.es.length + l.length
  | [], s, s', h => by cases h; simp
  | c :: l, s, s', h => by
    unfold said at h
    cases hc : take s c with
    | none => rw [hc] at h; cases h
    | some s1 =>
      rw [hc] at h
      have h1 := take_len hc
      have h2 := said_len l s1 s' h
      rw [List.length_cons]
      omega
/-- records of which the first ones say nothing -/
theorem said_none : ∀ (l : List ByteArray) (k : Nat) (s : St), said s (l.take k) = none → said s l = none
  | [], k, s, h => by rwa [List.take_nil] at h
  | c :: l, 0, s, h => by rw [List.take_zero] at h; cases h
  | c :: l, k + 1, s, h => by
    rw [List.take_succ_cons] at h
    unfold said at h ⊢
    cases hc : take s c with
    | none => rfl
    | some s1 =>
      rw [hc] at h
      exact said_none l k s1 h
end Sto
end Go.Proofs.Ytekmjhenhgmpgaa

/- A store is opened. -/
namespace Go.Proofs.Ytekmjhenhgmpgaa
open Go.RowKit
set_option maxRecDepth 100000

theorem results_tmp_cell_tmp {P : Program} {fn : Func} {a p u : Tmp} {ty : TypeId} (h : fn.results = #[.tmp a, .cell p ty, .tmp u]) (tmps : Array Value) (w : World) (g : Nat) (t : TypeId) (cs : Array Value) (fr : Nat × Nat) (d : TypeDesc)
    (hp : tmps.getD p undef = .pointer (some ⟨g, 0, none⟩)) (hg : w.heap[g]? = some (.cells cs t fr))
    (hu : P.underlying ty = some d) (hd : (match d with | .struct _ | .array _ _ => true | _ => false) = true) (hi : (P.info? ty).map (·.size) = some cs.size) :
    (results fn tmps).run P w = .ok (.tuple #[tmps.getD a undef, .agg cs, tmps.getD u undef]) w := by
  have hp' : tmps[p]?.getD undef = .pointer (some ⟨g, 0, none⟩) := by simpa using hp
  simp [results, h, hp', asAddr, run_loadVar_row w g t ty cs fr d hg hu hd hi]

namespace Sto
def openE (M : DM) (n : Int) (m : Nat) : Int :=
  if Qu.soundB m = false then 1 else if Wal.openE M n ≠ 0 then Wal.openE M n else
    match said (first m) (Wal.openL M n) with
    | none => 2
    | some s => if rightB s.hard s.snap s.es = true then 0 else 2
def openM (M : DM) (n : Int) (m : Nat) : DM := if Qu.soundB m = false then M else Wal.openM M n
end Sto
/-- the value of no state -/
def noState : Value := .agg #[.int .u64 0, .int .i64 0, .int .u64 0, .int .u64 0, .int .u64 0, .string { data := #[] }, .slice none 0 0]
def SOpenEnd (M : DM) (n : Int) (m d mb : Nat) (w : World) (e : Ending) (w' : World) : Prop :=
  ∃ pt x, e = .returned (.tuple #[pt, x, .int .i64 (Sto.openE M n m)]) ∧ DiskAt w' d mb (Sto.openM M n m) ∧ Only (fun k => k = d ∨ k = mb) w w' ∧
    ((Sto.openE M n m = 0 ∧ ∃ t g s, Sto.said (Sto.first m) (Wal.openL M n) = some s ∧ pt = .pointer (some ⟨t, 0, none⟩) ∧ w.heap.size ≤ t ∧ LogAt w' g d n ∧ StoreAt w' w.heap.size t g s ∧ StVal w' w.heap.size s x) ∨
     (Sto.openE M n m ≠ 0 ∧ pt = .pointer none ∧ x = noState))
theorem SOpenEnd.no {M : DM} {n : Int} {m d mb : Nat} {w w' : World} (x : Int) (M' : DM) (hx : Sto.openE M n m = x) (hM : Sto.openM M n m = M') (h0 : x ≠ 0) (hd : DiskAt w' d mb M') (ho : Only (fun k => k = d ∨ k = mb) w w') :
    SOpenEnd M n m d mb w (.returned (.tuple #[.pointer none, noState, .int .i64 x])) w' := by
  subst hx; subst hM
  exact ⟨_, _, rfl, hd, ho, .inr ⟨h0, rfl, rfl⟩⟩
/-- seven cells written again as they were -/
theorem zero_set {w : World} {g : Nat} (h : Blk w g #[.int .u64 0, .int .i64 0, .int .u64 0, .int .u64 0, .int .u64 0, .string { data := #[] }, .slice none 0 0] 42) : Blk (((((((w.setCell ⟨g, 0, none⟩ (.int .u64 0)).setCell ⟨g, 1, none⟩ (.int .i64 0)).setCell ⟨g, 2, none⟩ (.int .u64 0)).setCell ⟨g, 3, none⟩ (.int .u64 0)).setCell ⟨g, 4, none⟩ (.int .u64 0)).setCell ⟨g, 5, none⟩ (.string { data := #[] })).setCell ⟨g, 6, none⟩ (.slice none 0 0)) g #[.int .u64 0, .int .i64 0, .int .u64 0, .int .u64 0, .int .u64 0, .string { data := #[] }, .slice none 0 0] 42 := (((((((h.setCell 0 (.int .u64 0)).setCell 1 (.int .i64 0)).setCell 2 (.int .u64 0)).setCell 3 (.int .u64 0)).setCell 4 (.int .u64 0)).setCell 5 (.string { data := #[] })).setCell 6 (.slice none 0 0))
def zset (w : World) (g : Nat) : World := (((((((w.setCell ⟨g, 0, none⟩ (.int .u64 0)).setCell ⟨g, 1, none⟩ (.int .i64 0)).setCell ⟨g, 2, none⟩ (.int .u64 0)).setCell ⟨g, 3, none⟩ (.int .u64 0)).setCell ⟨g, 4, none⟩ (.int .u64 0)).setCell ⟨g, 5, none⟩ (.string { data := #[] })).setCell ⟨g, 6, none⟩ (.slice none 0 0))
theorem zset_only (w : World) (g : Nat) : Only (fun k => k = g) w (zset w g) := ((((((((Only.refl (fun k => k = g) w).setCell (p := ⟨g, 0, none⟩) (fun _ => rfl) (.int .u64 0)).setCell (p := ⟨g, 1, none⟩) (fun _ => rfl) (.int .i64 0)).setCell (p := ⟨g, 2, none⟩) (fun _ => rfl) (.int .u64 0)).setCell (p := ⟨g, 3, none⟩) (fun _ => rfl) (.int .u64 0)).setCell (p := ⟨g, 4, none⟩) (fun _ => rfl) (.int .u64 0)).setCell (p := ⟨g, 5, none⟩) (fun _ => rfl) (.string { data := #[] })).setCell (p := ⟨g, 6, none⟩) (fun _ => rfl) (.slice none 0 0))

/-- seven cells written -/
def vset (w : World) (g : Nat) (v0 v1 v2 v3 v4 v5 v6 : Value) : World := (((((((w.setCell ⟨g, 0, none⟩ v0).setCell ⟨g, 1, none⟩ v1).setCell ⟨g, 2, none⟩ v2).setCell ⟨g, 3, none⟩ v3).setCell ⟨g, 4, none⟩ v4).setCell ⟨g, 5, none⟩ v5).setCell ⟨g, 6, none⟩ v6)
theorem vset_only (w : World) (g : Nat) (v0 v1 v2 v3 v4 v5 v6 : Value) : Only (fun k => k = g) w (vset w g v0 v1 v2 v3 v4 v5 v6) := (((((((((Only.refl (fun k => k = g) w).setCell (p := ⟨g, 0, none⟩) (fun _ => rfl) v0).setCell (p := ⟨g, 1, none⟩) (fun _ => rfl) v1).setCell (p := ⟨g, 2, none⟩) (fun _ => rfl) v2).setCell (p := ⟨g, 3, none⟩) (fun _ => rfl) v3).setCell (p := ⟨g, 4, none⟩) (fun _ => rfl) v4).setCell (p := ⟨g, 5, none⟩) (fun _ => rfl) v5).setCell (p := ⟨g, 6, none⟩) (fun _ => rfl) v6))
theorem vset_blk {w : World} {g : Nat} (h : Blk w g #[.int .u64 0, .int .i64 0, .int .u64 0, .int .u64 0, .int .u64 0, .string { data := #[] }, .slice none 0 0] 42) (v0 v1 v2 v3 v4 v5 v6 : Value) : Blk (vset w g v0 v1 v2 v3 v4 v5 v6) g #[v0, v1, v2, v3, v4, v5, v6] 42 := ((((((((h.setCell 0 v0).setCell 1 v1).setCell 2 v2).setCell 3 v3).setCell 4 v4).setCell 5 v5).setCell 6 v6))
theorem SOpenEnd.ok {M : DM} {n : Int} {m d mb : Nat} {w w' : World} (t g : Nat) (s : St) (x : Value) (M' : DM) (hx : Sto.openE M n m = 0) (hM : Sto.openM M n m = M') (hs : Sto.said (Sto.first m) (Wal.openL M n) = some s) (ht : w.heap.size ≤ t) (hl : LogAt w' g d n)
    (hst : StoreAt w' w.heap.size t g s) (hv : StVal w' w.heap.size s x) (hd : DiskAt w' d mb M') (ho : Only (fun k => k = d ∨ k = mb) w w') :
    SOpenEnd M n m d mb w (.returned (.tuple #[.pointer (some ⟨t, 0, none⟩), x, .int .i64 0])) w' := by
  subst hM
  refine ⟨_, _, by rw [hx], hd, ho, .inl ⟨hx, t, g, s, hs, rfl, ht, hl, hst, hv⟩⟩
theorem copied_as (w : World) (ht : Nat) (hv : Int) (si st sc : Nat) (sd : ByteArray) (ao : Option Addr) (cap : Nat) (l : List Ent) (hl : EntsIn w ao l) (hll : l.length ≤ 1000000000000) :
    Calls Try.prog 40 #[.agg #[.int .u64 ht, .int .i64 hv, .int .u64 si, .int .u64 st, .int .u64 sc, .string sd, .slice ao l.length cap]] w fun e w' =>
      ∃ v, e = .returned (.agg #[.int .u64 ht, .int .i64 hv, .int .u64 si, .int .u64 st, .int .u64 sc, .string sd, v]) ∧ Ents w' w.heap.size v l ∧ Only NoBlock w w' :=
  copied_at w ⟨ht, hv⟩ ⟨si, st, sc, sd⟩ ao cap l hl hll

set_option maxHeartbeats 4000000 in
theorem storeopen_at (w : World) (d mb : Nat) (M : DM) (n : Int) (m : Nat) (h : DiskAt w d mb M) (hw : (Lit.int .i64 n).wf = true) (hm : m < 18446744073709551616)
    (hb : ∀ b ∈ Wal.openL M n, b.size ≤ 1000000000000) (hlen : (Wal.openL M n).length ≤ 1000000000) :
    Calls Try.prog 14 #[.pointer (some ⟨d, 0, none⟩), .int .i64 n, .int .u64 m] w (SOpenEnd M n m d mb w) := by
  have hdl := h.blk.lt
  have hml := h.files.lt
  have hr := Blk.made w #[.int .u64 0, .int .i64 0, .int .u64 0, .int .u64 0, .int .u64 0, .string { data := #[] }, .slice none 0 0] 42
  have hn := (Only.refl (fun k => k = d ∨ k = mb) w).alloc (Obj.cells #[.int .u64 0, .int .i64 0, .int .u64 0, .int .u64 0, .int .u64 0, .string { data := #[] }, .slice none 0 0] 42)
  have hD := h.keeps ((Only.refl NoBlock w).alloc (Obj.cells #[.int .u64 0, .int .i64 0, .int .u64 0, .int .u64 0, .int .u64 0, .string { data := #[] }, .slice none 0 0] 42)) (fun h => h) (fun h => h)
  have hz2 : w.heap.size < (w.alloc (Obj.cells #[.int .u64 0, .int .i64 0, .int .u64 0, .int .u64 0, .int .u64 0, .string { data := #[] }, .slice none 0 0] 42)).heap.size := by simp
  go_enter Try.func14, Try.ntmps14
  go_upto_region 1 with fail
  generalize w.alloc (Obj.cells #[.int .u64 0, .int .i64 0, .int .u64 0, .int .u64 0, .int .u64 0, .string { data := #[] }, .slice none 0 0] 42) = w1 at hr hn hD hz2 ⊢
  obtain ⟨fs, hfs⟩ := Sto.u_state
  have HFS := Lib.hid hfs
  clear hfs
  have q0 : w1.cell? ⟨w.heap.size, 0, none⟩ = some (.int .u64 0) := by rw [hr.cell]; rfl
  have f0 := hr.free 0
  have q1 : w1.cell? ⟨w.heap.size, 1, none⟩ = some (.int .i64 0) := by rw [hr.cell]; rfl
  have f1 := hr.free 1
  have q2 : w1.cell? ⟨w.heap.size, 2, none⟩ = some (.int .u64 0) := by rw [hr.cell]; rfl
  have f2 := hr.free 2
  have q3 : w1.cell? ⟨w.heap.size, 3, none⟩ = some (.int .u64 0) := by rw [hr.cell]; rfl
  have f3 := hr.free 3
  have q4 : w1.cell? ⟨w.heap.size, 4, none⟩ = some (.int .u64 0) := by rw [hr.cell]; rfl
  have f4 := hr.free 4
  have q5 : w1.cell? ⟨w.heap.size, 5, none⟩ = some (.string { data := #[] }) := by rw [hr.cell]; rfl
  have f5 := hr.free 5
  have q6 : w1.cell? ⟨w.heap.size, 6, none⟩ = some (.slice none 0 0) := by rw [hr.cell]; rfl
  have f6 := hr.free 6
  go_wp2_with fail
  refine (sound_at w1 m (by omega)).mono ?_
  rintro e w2 ⟨rfl, rfl⟩
  cases hq : Qu.soundB m with
  | false =>
    have HE : RowKit.Hid (Sto.openE M n m = 1) := Lib.hid (by unfold Sto.openE; rw [if_pos hq])
    have HM : RowKit.Hid (Sto.openM M n m = M) := Lib.hid (by unfold Sto.openM; rw [if_pos hq])
    clear hq
    go_wp2_with fail
    (try simp only [Exit.inBlock, Exit.then])
    refine bodyPost_ret (results_tmp_cell_tmp (P := Try.prog) rfl _ _ w.heap.size _ _ _ _ rfl (zero_set hr) HFS.out rfl Sto.size_state) rfl ?_
    have hz := zset_only w1 w.heap.size
    exact SOpenEnd.no 1 M HE.out HM.out (by decide) (hD.keeps hz (by omega) (by omega)) (hn.andThen hz (fun k hk e => by have e' : k = w.heap.size := e; omega))
  | true =>
    have HQ := Lib.hid hq
    clear hq
    have HM : RowKit.Hid (Sto.openM M n m = Wal.openM M n) := Lib.hid (by unfold Sto.openM; rw [if_neg (by rw [HQ.out]; decide)])
    go_wp2_with fail
    refine (open_at w1 d mb M n hD hw).mono ?_
    rintro e w2 ⟨pt, v, rfl, hD2, hO2, hE⟩
    have hr2 : Blk w2 w.heap.size _ _ := hr.keeps hO2 (by omega)
    have hn2 := hn.andThen hO2 (fun k hk e => e)
    clear q0 q1 q2 q3 q4 q5 q6 f0 f1 f2 f3 f4 f5 f6 hD hr hn
    have q0 : w2.cell? ⟨w.heap.size, 0, none⟩ = some (.int .u64 0) := by rw [hr2.cell]; rfl
    have f0 := hr2.free 0
    have q1 : w2.cell? ⟨w.heap.size, 1, none⟩ = some (.int .i64 0) := by rw [hr2.cell]; rfl
    have f1 := hr2.free 1
    have q2 : w2.cell? ⟨w.heap.size, 2, none⟩ = some (.int .u64 0) := by rw [hr2.cell]; rfl
    have f2 := hr2.free 2
    have q3 : w2.cell? ⟨w.heap.size, 3, none⟩ = some (.int .u64 0) := by rw [hr2.cell]; rfl
    have f3 := hr2.free 3
    have q4 : w2.cell? ⟨w.heap.size, 4, none⟩ = some (.int .u64 0) := by rw [hr2.cell]; rfl
    have f4 := hr2.free 4
    have q5 : w2.cell? ⟨w.heap.size, 5, none⟩ = some (.string { data := #[] }) := by rw [hr2.cell]; rfl
    have f5 := hr2.free 5
    have q6 : w2.cell? ⟨w.heap.size, 6, none⟩ = some (.slice none 0 0) := by rw [hr2.cell]; rfl
    have f6 := hr2.free 6
    rcases hE with ⟨h0, g, rfl, hg, hL, hS⟩ | ⟨h0, rfl, rfl⟩
    · obtain ⟨ao, cap, rfl⟩ := hS.shape
      have hin := hS.read
      have hbr := World.ownsRow.lt hS
      rw [h0]
      have H0 := Lib.hid h0
      clear h0 q0 q1 q2 q3 q4 q5 q6 f0 f1 f2 f3 f4 f5 f6
      generalize hL0 : Wal.openL M n = L at hS hin hbr hb hlen ⊢
      have HL := Lib.hid hL0
      clear hL0
      go_upto_region 7 with fail
      have hbL := Blk.made w2 #[.int .u64 0, .int .i64 (-1), .int .u64 0, .int .u64 0, .int .u64 m, .string { data := #[] }, .slice none 0 0] 42
      have hA := (Only.refl NoBlock w2).alloc (Obj.cells #[.int .u64 0, .int .i64 (-1), .int .u64 0, .int .u64 0, .int .u64 m, .string { data := #[] }, .slice none 0 0] 42)
      have hnb : ∀ k, (Value.slice ao L.length cap).ownBlock = some k → k < w2.heap.size := fun k hk => (hbr k hk).2
      have hgl := hL.lt
      have hwl := hr2.lt
      have hd2 := hD2.blk.lt
      have hm2 := hD2.files.lt
      generalize w2.alloc (Obj.cells #[.int .u64 0, .int .i64 (-1), .int .u64 0, .int .u64 0, .int .u64 m, .string { data := #[] }, .slice none 0 0] 42) = w3 at hbL hA ⊢
      have hD3 := hD2.keeps hA (fun h => h) (fun h => h)
      have hr3 := hr2.keeps hA (fun h => h)
      have hL3 : LogAt w3 g d n := Blk.keeps hL hA (fun h => h)
      have hI3 : StrsIn w3 ao L := hin.1.keeps hA (fun _ _ h => h)
      have hS3 : StAt w3 w2.heap.size w2.heap.size (Sto.first m) := ⟨Nat.le_refl _, ⟨(by decide : (0 : Nat) < 18446744073709551616), WalkArith.wf_i64 (n := -1) ⟨by decide, by decide⟩⟩, ⟨(by decide : (0 : Nat) < 18446744073709551616), (by decide : (0 : Nat) < 18446744073709551616), hm, (by decide : (0 : Nat) ≤ 140737488351232)⟩, _, hbL, Ents.nil _ _⟩
      have hn3 := hn2.andThen hA (fun _ _ h => h.elim)
      clear hD2 hr2 hL hbL hA hS hin hbr hn2
      generalize w2.heap.size = B at *
      go_wp2_with fail
      go_loopw [36] (fun v36 wr => ∃ (k : Nat) (s : St), k ≤ L.length ∧ v36 = .int .i64 k ∧ RowKit.Hid (Sto.said (Sto.first m) (L.take k) = some s) ∧ StAt wr B B s ∧ Only (fun j => B ≤ j) w3 wr) (fun v36 _ => L.length - (intOf v36).toNat)
      case atStart => exact ⟨0, Sto.first m, by omega, rfl, Lib.hid rfl, hS3, Only.refl _ _⟩
      case round =>
        clear hS3
        obtain ⟨k, s, hk, rfl, HS, hS4, hO4⟩ := hrel
        have hD4 := hD3.keeps hO4 (by omega) (by omega)
        have hr4 := hr3.keeps hO4 (by omega)
        have hL4 : LogAt wr g d n := Blk.keeps hL3 hO4 (by omega)
        have hI4 : StrsIn wr ao L := hI3.keeps hO4 (fun a ha h => by subst ha; have := hnb a.block rfl; have h' : B ≤ a.block := h; omega)
        by_cases hlt : k < L.length
        · obtain ⟨bb, off, rfl, c0⟩ := hI4.cell k hlt
          have hbk : (L.getD k ByteArray.empty).size ≤ 1000000000000 := by
            rw [List.getD_eq_getElem?_getD, List.getElem?_eq_getElem hlt]
            exact hb _ (List.getElem_mem hlt)
          have hsl := Sto.said_len _ _ _ HS.out
          have hts : L.take (k + 1) = L.take k ++ [L.getD k ByteArray.empty] := by rw [List.take_add_one, List.getElem?_eq_getElem hlt, List.getD_eq_getElem?_getD, List.getElem?_eq_getElem hlt]; rfl
          have hsn := Sto.said_snoc (L.take k) (Sto.first m) (L.getD k ByteArray.empty)
          rw [← hts, HS.out] at hsn
          have hse : s.es.length ≤ 1000000000000 := by rw [List.length_take] at hsl; have : (Sto.first m).es.length = 0 := rfl; omega
          have HSN := Lib.hid hsn
          clear hsn hts hsl
          generalize L.getD k ByteArray.empty = bk at c0 hbk HSN
          go_wp2_with fail
          refine (take_at wr B B s hS4 hse bk hbk).mono ?_
          rintro e w5 ⟨hO5, hE⟩
          have hO6 := hO4.trans hO5
          have hD5 := hD4.keeps hO5 (by omega) (by omega)
          have hr5 := hr4.keeps hO5 (by omega)
          clear hD4 hr4 hL4 hI4 hS4 hO4 hO5 c0
          rcases hE with ⟨s', ht, rfl, hS5⟩ | ⟨ht, rfl⟩
          · have HS2 : RowKit.Hid (Sto.said (Sto.first m) (L.take (k + 1)) = some s') := Lib.hid (HSN.out.trans ht)
            clear ht HSN hD5 hr5
            go_wp2_with fail
            go_roundw
            case rel => exact ⟨k + 1, s', by omega, by go_num, HS2, hS5, hO6⟩
            case measure => simp [intOf]; omega
          · have hno : Sto.said (Sto.first m) L = none := Sto.said_none L (k + 1) _ (HSN.out.trans ht)
            have HE : RowKit.Hid (Sto.openE M n m = 2) := Lib.hid (by unfold Sto.openE; rw [if_neg (by rw [HQ.out]; decide), if_neg (by rw [H0.out]; decide), HL.out, hno])
            clear ht hno HSN
            have q0 : w5.cell? ⟨w.heap.size, 0, none⟩ = some (.int .u64 0) := by rw [hr5.cell]; rfl
            have f0 := hr5.free 0
            have q1 : w5.cell? ⟨w.heap.size, 1, none⟩ = some (.int .i64 0) := by rw [hr5.cell]; rfl
            have f1 := hr5.free 1
            have q2 : w5.cell? ⟨w.heap.size, 2, none⟩ = some (.int .u64 0) := by rw [hr5.cell]; rfl
            have f2 := hr5.free 2
            have q3 : w5.cell? ⟨w.heap.size, 3, none⟩ = some (.int .u64 0) := by rw [hr5.cell]; rfl
            have f3 := hr5.free 3
            have q4 : w5.cell? ⟨w.heap.size, 4, none⟩ = some (.int .u64 0) := by rw [hr5.cell]; rfl
            have f4 := hr5.free 4
            have q5 : w5.cell? ⟨w.heap.size, 5, none⟩ = some (.string { data := #[] }) := by rw [hr5.cell]; rfl
            have f5 := hr5.free 5
            have q6 : w5.cell? ⟨w.heap.size, 6, none⟩ = some (.slice none 0 0) := by rw [hr5.cell]; rfl
            have f6 := hr5.free 6
            go_wp2_with fail
            (try simp only [Exit.inBlock, Exit.then])
            refine bodyPost_ret (results_tmp_cell_tmp (P := Try.prog) rfl _ _ w.heap.size _ _ _ _ rfl (zero_set hr5) HFS.out rfl Sto.size_state) rfl ?_
            have hz := zset_only w5 w.heap.size
            exact SOpenEnd.no 2 _ HE.out HM.out (by decide) (hD5.keeps hz (by omega) (by omega)) ((hn3.andThen hO6 (fun j hj e => by have e' : B ≤ j := e; omega)).andThen hz (fun k hk e => by have e' : k = w.heap.size := e; omega))
        · obtain rfl : k = L.length := by omega
          rw [List.take_length] at HS
          have hsl := Sto.said_len _ _ _ HS.out
          obtain ⟨⟨ht, hv⟩, ⟨si, st, sc, sd⟩, es⟩ := s
          obtain ⟨-, hh, hsw, v2, hBs, hEs⟩ := hS4
          simp only [stCells] at hh hsw hBs hEs hsl
          have hel : es.length ≤ 1000000000000 := by have : (Sto.first m).es.length = 0 := rfl; omega
          obtain ⟨ao2, cap2, rfl⟩ := hEs.shape
          obtain ⟨hin2, -, -⟩ := hEs.read (by omega)
          have c0 : wr.cell? ⟨B, 0, none⟩ = some (.int .u64 ht) := by rw [hBs.cell]; rfl
          have c1 : wr.cell? ⟨B, 1, none⟩ = some (.int .i64 hv) := by rw [hBs.cell]; rfl
          have c2 : wr.cell? ⟨B, 2, none⟩ = some (.int .u64 si) := by rw [hBs.cell]; rfl
          have c3 : wr.cell? ⟨B, 3, none⟩ = some (.int .u64 st) := by rw [hBs.cell]; rfl
          have c4 : wr.cell? ⟨B, 4, none⟩ = some (.int .u64 sc) := by rw [hBs.cell]; rfl
          have c5 : wr.cell? ⟨B, 5, none⟩ = some (.string sd) := by rw [hBs.cell]; rfl
          have c6 : wr.cell? ⟨B, 6, none⟩ = some (.slice ao2 es.length cap2) := by rw [hBs.cell]; rfl
          go_wp2_with fail
          refine (right_at wr ⟨ht, hv⟩ hh ⟨si, st, sc, sd⟩ hsw ao2 cap2 es hin2 hel).mono ?_
          rintro e w5 ⟨rfl, hO5⟩
          have hD5 := hD4.keeps hO5 (fun h => h) (fun h => h)
          have hr5 := hr4.keeps hO5 (fun h => h)
          have hO6 := hO4.trans hO5.of_no
          cases hrb : rightB ⟨ht, hv⟩ ⟨si, st, sc, sd⟩ es with
          | false =>
            have HE : RowKit.Hid (Sto.openE M n m = 2) := Lib.hid (by unfold Sto.openE; rw [if_neg (by rw [HQ.out]; decide), if_neg (by rw [H0.out]; decide), HL.out, HS.out]; simp only; rw [if_neg (by rw [hrb]; decide)])
            clear hrb c0 c1 c2 c3 c4 c5 c6
            have q0 : w5.cell? ⟨w.heap.size, 0, none⟩ = some (.int .u64 0) := by rw [hr5.cell]; rfl
            have f0 := hr5.free 0
            have q1 : w5.cell? ⟨w.heap.size, 1, none⟩ = some (.int .i64 0) := by rw [hr5.cell]; rfl
            have f1 := hr5.free 1
            have q2 : w5.cell? ⟨w.heap.size, 2, none⟩ = some (.int .u64 0) := by rw [hr5.cell]; rfl
            have f2 := hr5.free 2
            have q3 : w5.cell? ⟨w.heap.size, 3, none⟩ = some (.int .u64 0) := by rw [hr5.cell]; rfl
            have f3 := hr5.free 3
            have q4 : w5.cell? ⟨w.heap.size, 4, none⟩ = some (.int .u64 0) := by rw [hr5.cell]; rfl
            have f4 := hr5.free 4
            have q5 : w5.cell? ⟨w.heap.size, 5, none⟩ = some (.string { data := #[] }) := by rw [hr5.cell]; rfl
            have f5 := hr5.free 5
            have q6 : w5.cell? ⟨w.heap.size, 6, none⟩ = some (.slice none 0 0) := by rw [hr5.cell]; rfl
            have f6 := hr5.free 6
            go_wp2_with fail
            (try simp only [Exit.inBlock, Exit.then])
            refine bodyPost_ret (results_tmp_cell_tmp (P := Try.prog) rfl _ _ w.heap.size _ _ _ _ rfl (zero_set hr5) HFS.out rfl Sto.size_state) rfl ?_
            have hz := zset_only w5 w.heap.size
            exact SOpenEnd.no 2 _ HE.out HM.out (by decide) (hD5.keeps hz (by omega) (by omega)) ((hn3.andThen hO6 (fun j hj e => by have e' : B ≤ j := e; omega)).andThen hz (fun k hk e => by have e' : k = w.heap.size := e; omega))
          | true =>
            have HE : RowKit.Hid (Sto.openE M n m = 0) := Lib.hid (by unfold Sto.openE; rw [if_neg (by rw [HQ.out]; decide), if_neg (by rw [H0.out]; decide), HL.out, HS.out]; simp only; rw [if_pos hrb])
            have HSD : RowKit.Hid (Sto.said (Sto.first m) (Wal.openL M n) = some ⟨⟨ht, hv⟩, ⟨si, st, sc, sd⟩, es⟩) := Lib.hid (by rw [HL.out, HS.out])
            have hL5 : LogAt w5 g d n := Blk.keeps hL4 hO5 (fun h => h)
            have hB5 := hBs.keeps hO5 (fun h => h)
            have hE5 : Ents w5 B (.slice ao2 es.length cap2) es := hEs.keeps hO5 (fun _ _ h => h)
            have hI5 : EntsIn w5 ao2 es := hin2.keeps hO5 (fun _ _ h => h)
            have hn5 := hn3.andThen hO6 (fun j hj e => by have e' : B ≤ j := e; omega)
            have hlt5 := hB5.lt
            clear hrb c0 c1 c2 c3 c4 c5 c6 hL4 hBs hEs hin2 hD4 hr4 hO4 hO5 hO6 hI4 HS hI3 hL3 hD3 hr3 hn3
            have c0 : w5.cell? ⟨B, 0, none⟩ = some (.int .u64 ht) := by rw [hB5.cell]; rfl
            have c1 : w5.cell? ⟨B, 1, none⟩ = some (.int .i64 hv) := by rw [hB5.cell]; rfl
            have c2 : w5.cell? ⟨B, 2, none⟩ = some (.int .u64 si) := by rw [hB5.cell]; rfl
            have c3 : w5.cell? ⟨B, 3, none⟩ = some (.int .u64 st) := by rw [hB5.cell]; rfl
            have c4 : w5.cell? ⟨B, 4, none⟩ = some (.int .u64 sc) := by rw [hB5.cell]; rfl
            have c5 : w5.cell? ⟨B, 5, none⟩ = some (.string sd) := by rw [hB5.cell]; rfl
            have c6 : w5.cell? ⟨B, 6, none⟩ = some (.slice ao2 es.length cap2) := by rw [hB5.cell]; rfl
            have nB := World.new_ne w5 ⟨B, 0, none⟩ c0
            have hRB : w.heap.size ≠ B := by omega
            have hBR : B ≠ w.heap.size := by omega
            have hOa : Only NoBlock w5 w5.drew := (Only.refl NoBlock w5).drew
            have hOb : Only NoBlock w5 (w5.alloc (Obj.cells #[.pointer (some ⟨g, 0, none⟩), .int .u64 ht, .int .i64 hv, .int .u64 si, .int .u64 st, .int .u64 sc, .string sd, .slice ao2 es.length cap2] 100)).drew := ((Only.refl NoBlock w5).alloc _).drew
            have hIa := hI5.keeps hOa (fun _ _ h => h)
            have hIb := hI5.keeps hOb (fun _ _ h => h)
            have hTb := Blk.drew (Blk.made w5 #[.pointer (some ⟨g, 0, none⟩), .int .u64 ht, .int .i64 hv, .int .u64 si, .int .u64 st, .int .u64 sc, .string sd, .slice ao2 es.length cap2] 100)
            go_wp2_with fail
            go_region_held3 (fun w' => w'.cell? ⟨B, 0, none⟩ = some (.int .u64 ht) ∧ w'.cell? ⟨B, 1, none⟩ = some (.int .i64 hv) ∧ w'.cell? ⟨B, 2, none⟩ = some (.int .u64 si) ∧ w'.cell? ⟨B, 3, none⟩ = some (.int .u64 st) ∧ w'.cell? ⟨B, 4, none⟩ = some (.int .u64 sc) ∧ w'.cell? ⟨B, 5, none⟩ = some (.string sd) ∧ w'.cell? ⟨B, 6, none⟩ = some (.slice ao2 es.length cap2))
              (first | with_reducible exact ⟨c0, c1, c2, c3, c4, c5, c6⟩ | go_keep)
              ((go_at_call 40; refine (copied_as _ ht hv si st sc sd ao2 cap2 es (by first | with_reducible exact hIa | with_reducible exact hIb) hel).mono ?_; rintro e w7 ⟨v7, rfl, hE7, hO7⟩; (try (with_reducible have hg7 : Only NoBlock w5.drew w7 := hO7)); (first | (clear hg7) | have hT7 := hTb.keeps hO7 (fun h => h)); have hO57 : Only NoBlock w5 w7 := Only.trans (by first | with_reducible exact hOa | with_reducible exact hOb) hO7; have hE7' := hE7.lower (b' := w5.heap.size) (by simp; try omega); clear hE7; obtain ⟨ao7, cap7, rfl⟩ := hE7'.shape; have hr7 := hr5.keeps hO57 (fun h => h); have hB7 := hB5.keeps hO57 (fun h => h)
                have c0 : w7.cell? ⟨B, 0, none⟩ = some (.int .u64 ht) := by rw [hB7.cell]; rfl
                have c1 : w7.cell? ⟨B, 1, none⟩ = some (.int .i64 hv) := by rw [hB7.cell]; rfl
                have c2 : w7.cell? ⟨B, 2, none⟩ = some (.int .u64 si) := by rw [hB7.cell]; rfl
                have c3 : w7.cell? ⟨B, 3, none⟩ = some (.int .u64 st) := by rw [hB7.cell]; rfl
                have c4 : w7.cell? ⟨B, 4, none⟩ = some (.int .u64 sc) := by rw [hB7.cell]; rfl
                have c5 : w7.cell? ⟨B, 5, none⟩ = some (.string sd) := by rw [hB7.cell]; rfl
                have c6 : w7.cell? ⟨B, 6, none⟩ = some (.slice ao2 es.length cap2) := by rw [hB7.cell]; rfl
                have q0 : w7.cell? ⟨w.heap.size, 0, none⟩ = some (.int .u64 0) := by rw [hr7.cell]; rfl
                have f0 := hr7.free 0
                have q1 : w7.cell? ⟨w.heap.size, 1, none⟩ = some (.int .i64 0) := by rw [hr7.cell]; rfl
                have f1 := hr7.free 1
                have q2 : w7.cell? ⟨w.heap.size, 2, none⟩ = some (.int .u64 0) := by rw [hr7.cell]; rfl
                have f2 := hr7.free 2
                have q3 : w7.cell? ⟨w.heap.size, 3, none⟩ = some (.int .u64 0) := by rw [hr7.cell]; rfl
                have f3 := hr7.free 3
                have q4 : w7.cell? ⟨w.heap.size, 4, none⟩ = some (.int .u64 0) := by rw [hr7.cell]; rfl
                have f4 := hr7.free 4
                have q5 : w7.cell? ⟨w.heap.size, 5, none⟩ = some (.string { data := #[] }) := by rw [hr7.cell]; rfl
                have f5 := hr7.free 5
                have q6 : w7.cell? ⟨w.heap.size, 6, none⟩ = some (.slice none 0 0) := by rw [hr7.cell]; rfl
                have f6 := hr7.free 6
                have n7 := World.new_ne w7 ⟨B, 0, none⟩ c0
                have n7' := World.new_ne w7 ⟨w.heap.size, 0, none⟩ q0
                have hz7 := hr7.alloc (Obj.cells #[.pointer (some ⟨g, 0, none⟩), .int .u64 ht, .int .i64 hv, .int .u64 si, .int .u64 st, .int .u64 sc, .string sd, .slice ao2 es.length cap2] 100)
                have z0 : (w7.alloc (Obj.cells #[.pointer (some ⟨g, 0, none⟩), .int .u64 ht, .int .i64 hv, .int .u64 si, .int .u64 st, .int .u64 sc, .string sd, .slice ao2 es.length cap2] 100)).cell? ⟨w.heap.size, 0, none⟩ = some (.int .u64 0) := by rw [hz7.cell]; rfl
                have y0 := hz7.free 0
                have z1 : (w7.alloc (Obj.cells #[.pointer (some ⟨g, 0, none⟩), .int .u64 ht, .int .i64 hv, .int .u64 si, .int .u64 st, .int .u64 sc, .string sd, .slice ao2 es.length cap2] 100)).cell? ⟨w.heap.size, 1, none⟩ = some (.int .i64 0) := by rw [hz7.cell]; rfl
                have y1 := hz7.free 1
                have z2 : (w7.alloc (Obj.cells #[.pointer (some ⟨g, 0, none⟩), .int .u64 ht, .int .i64 hv, .int .u64 si, .int .u64 st, .int .u64 sc, .string sd, .slice ao2 es.length cap2] 100)).cell? ⟨w.heap.size, 2, none⟩ = some (.int .u64 0) := by rw [hz7.cell]; rfl
                have y2 := hz7.free 2
                have z3 : (w7.alloc (Obj.cells #[.pointer (some ⟨g, 0, none⟩), .int .u64 ht, .int .i64 hv, .int .u64 si, .int .u64 st, .int .u64 sc, .string sd, .slice ao2 es.length cap2] 100)).cell? ⟨w.heap.size, 3, none⟩ = some (.int .u64 0) := by rw [hz7.cell]; rfl
                have y3 := hz7.free 3
                have z4 : (w7.alloc (Obj.cells #[.pointer (some ⟨g, 0, none⟩), .int .u64 ht, .int .i64 hv, .int .u64 si, .int .u64 st, .int .u64 sc, .string sd, .slice ao2 es.length cap2] 100)).cell? ⟨w.heap.size, 4, none⟩ = some (.int .u64 0) := by rw [hz7.cell]; rfl
                have y4 := hz7.free 4
                have z5 : (w7.alloc (Obj.cells #[.pointer (some ⟨g, 0, none⟩), .int .u64 ht, .int .i64 hv, .int .u64 si, .int .u64 st, .int .u64 sc, .string sd, .slice ao2 es.length cap2] 100)).cell? ⟨w.heap.size, 5, none⟩ = some (.string { data := #[] }) := by rw [hz7.cell]; rfl
                have y5 := hz7.free 5
                have z6 : (w7.alloc (Obj.cells #[.pointer (some ⟨g, 0, none⟩), .int .u64 ht, .int .i64 hv, .int .u64 si, .int .u64 st, .int .u64 sc, .string sd, .slice ao2 es.length cap2] 100)).cell? ⟨w.heap.size, 6, none⟩ = some (.slice none 0 0) := by rw [hz7.cell]; rfl
                have y6 := hz7.free 6
                have HB7 := Lib.hid hB7; have HR7 := Lib.hid hr7; (try have HT7 := Lib.hid hT7); have HE7 := Lib.hid hE7'; have HO57 := Lib.hid hO57; clear hz7 hB7 hr7 hE7' hO57 hO7; (try clear hT7); clear hOa hOb hIa hIb hTb nB))
            · have hR := vset_blk HR7.out (.int .u64 ht) (.int .i64 hv) (.int .u64 si) (.int .u64 st) (.int .u64 sc) (.string sd) (.slice ao7 es.length cap7)
              have hz := vset_only w7 w.heap.size (.int .u64 ht) (.int .i64 hv) (.int .u64 si) (.int .u64 st) (.int .u64 sc) (.string sd) (.slice ao7 es.length cap7)
              have hTz := HT7.out.keeps hz (fun e => by have e' : w5.heap.size = w.heap.size := e; omega)
              have hEz := HE7.out.keeps hz (fun k hk e => by have := (World.ownsRow.lt HE7.out.1 k hk).1; have e' : k = w.heap.size := e; omega)
              have hE2 := (hE5.keeps HO57.out (fun _ _ h => h)).keeps hz (fun k hk e => by have := (World.ownsRow.lt hE5.1 k hk).1; have e' : k = w.heap.size := e; omega)
              have hDz := (hD5.keeps HO57.out (fun h => h) (fun h => h)).keeps hz (by omega) (by omega)
              have hLz : LogAt _ g d n := Blk.keeps (Blk.keeps hL5 HO57.out (fun h => h)) hz (by omega)
              have hOz := (hn5.andThen HO57.out (fun _ _ h => h.elim)).andThen hz (fun k hk e => by have e' : k = w.heap.size := e; omega)
              go_wp2_with fail
              (try simp only [Exit.inBlock, Exit.then])
              refine bodyPost_ret (results_tmp_cell_tmp (P := Try.prog) rfl _ _ w.heap.size _ _ _ _ rfl hR HFS.out rfl Sto.size_state) rfl ?_
              exact SOpenEnd.ok w5.heap.size g ⟨⟨ht, hv⟩, ⟨si, st, sc, sd⟩, es⟩ _ _ HE.out HM.out HSD.out (by omega) hLz ⟨hh, hsw, _, hTz, hE2.lower (by omega)⟩ ⟨_, rfl, hEz.lower (by omega)⟩ hDz hOz
            · have hA7 := (Only.refl NoBlock w7).alloc (Obj.cells #[.pointer (some ⟨g, 0, none⟩), .int .u64 ht, .int .i64 hv, .int .u64 si, .int .u64 st, .int .u64 sc, .string sd, .slice ao2 es.length cap2] 100)
              have hz7 := HO57.out.size
              have hT7 := Blk.made w7 #[.pointer (some ⟨g, 0, none⟩), .int .u64 ht, .int .i64 hv, .int .u64 si, .int .u64 st, .int .u64 sc, .string sd, .slice ao2 es.length cap2] 100
              have hR := vset_blk (HR7.out.alloc (Obj.cells #[.pointer (some ⟨g, 0, none⟩), .int .u64 ht, .int .i64 hv, .int .u64 si, .int .u64 st, .int .u64 sc, .string sd, .slice ao2 es.length cap2] 100)) (.int .u64 ht) (.int .i64 hv) (.int .u64 si) (.int .u64 st) (.int .u64 sc) (.string sd) (.slice ao7 es.length cap7)
              have hz := vset_only (w7.alloc (Obj.cells #[.pointer (some ⟨g, 0, none⟩), .int .u64 ht, .int .i64 hv, .int .u64 si, .int .u64 st, .int .u64 sc, .string sd, .slice ao2 es.length cap2] 100)) w.heap.size (.int .u64 ht) (.int .i64 hv) (.int .u64 si) (.int .u64 st) (.int .u64 sc) (.string sd) (.slice ao7 es.length cap7)
              have hTz := hT7.keeps hz (fun e => by have e' : w7.heap.size = w.heap.size := e; omega)
              have hEz := (HE7.out.keeps hA7 (fun _ _ h => h)).keeps hz (fun k hk e => by have := (World.ownsRow.lt HE7.out.1 k hk).1; have e' : k = w.heap.size := e; omega)
              have hE2 := ((hE5.keeps HO57.out (fun _ _ h => h)).keeps hA7 (fun _ _ h => h)).keeps hz (fun k hk e => by have := (World.ownsRow.lt hE5.1 k hk).1; have e' : k = w.heap.size := e; omega)
              have hDz := ((hD5.keeps HO57.out (fun h => h) (fun h => h)).keeps hA7 (fun h => h) (fun h => h)).keeps hz (by omega) (by omega)
              have hLz : LogAt _ g d n := Blk.keeps (Blk.keeps (Blk.keeps hL5 HO57.out (fun h => h)) hA7 (fun h => h)) hz (by omega)
              have hOz := ((hn5.andThen HO57.out (fun _ _ h => h.elim)).andThen hA7 (fun _ _ h => h.elim)).andThen hz (fun k hk e => by have e' : k = w.heap.size := e; omega)
              go_wp2_with fail
              (try simp only [Exit.inBlock, Exit.then])
              refine bodyPost_ret (results_tmp_cell_tmp (P := Try.prog) rfl _ _ w.heap.size _ _ _ _ rfl hR HFS.out rfl Sto.size_state) rfl ?_
              exact SOpenEnd.ok w7.heap.size g ⟨⟨ht, hv⟩, ⟨si, st, sc, sd⟩, es⟩ _ _ HE.out HM.out HSD.out (by omega) hLz ⟨hh, hsw, _, hTz, hE2.lower (by omega)⟩ ⟨_, rfl, hEz.lower (by omega)⟩ hDz hOz
    · have HE : RowKit.Hid (Sto.openE M n m = Wal.openE M n) := Lib.hid (by unfold Sto.openE; rw [if_neg (by rw [HQ.out]; decide), if_pos h0])
      generalize Wal.openE M n = x at h0 HE ⊢
      have d0 : (x != 0) = true := by simpa using h0
      have H0 := Lib.hid h0
      clear h0
      go_wp2_with fail
      (try simp only [Exit.inBlock, Exit.then])
      refine bodyPost_ret (results_tmp_cell_tmp (P := Try.prog) rfl _ _ w.heap.size _ _ _ _ rfl (zero_set hr2) HFS.out rfl Sto.size_state) rfl ?_
      have hz := zset_only w2 w.heap.size
      exact SOpenEnd.no x _ HE.out HM.out H0.out (hD2.keeps hz (by omega) (by omega)) (hn2.andThen hz (fun k hk e => by have e' : k = w.heap.size := e; omega))
end Go.Proofs.Ytekmjhenhgmpgaa

/- What Save and Anew write and leave, in plain data. -/
namespace Go.Proofs.Ytekmjhenhgmpgaa
open Go.RowKit
set_option maxRecDepth 100000

theorem Strs.apart {w : World} {base p : Nat} {v : Value} {l : List ByteArray} {cs : Array Value} {t : TypeId} (h : Strs w base v l) (hb : Blk w p cs t) (ht : t ≠ 9) : v.ownBlock ≠ some p := by
  rcases h.2 with ⟨rfl, h0⟩ | ⟨g, cap, cur, rfl, _, hg, _⟩
  · simp [Value.ownBlock]
  · intro e
    have e' : g = p := by simpa [Value.ownBlock] using e
    subst e'
    unfold Blk at hb
    rw [hb] at hg
    cases hg
    exact ht rfl
theorem Strs.apartE {w : World} {b1 b2 : Nat} {v u : Value} {l : List ByteArray} {m : List Ent} (h : Strs w b1 v l) (he : Ents w b2 u m) : ∀ k, v.ownBlock = some k → u.ownBlock ≠ some k := by
  intro k hk hu
  rcases h.2 with ⟨rfl, h0⟩ | ⟨g, cap, cur, rfl, _, hg, _⟩
  · simp [Value.ownBlock] at hk
  · rcases he.1.2 with ⟨rfl, h0⟩ | ⟨g2, cap2, cur2, rfl, _, hg2, _⟩
    · simp [Value.ownBlock] at hu
    · have e1 : g = k := by simpa [Value.ownBlock] using hk
      have e2 : g2 = k := by simpa [Value.ownBlock] using hu
      subst e1; subst e2
      rw [hg] at hg2
      cases hg2

namespace Sto
def hardB (h : Hrd) : ByteArray := textOf (Rc.hard h)
def entB (e : Ent) : ByteArray := textOf (Rc.entry e)
def cutB (i : Nat) : ByteArray := textOf (Rc.cut i)
def snapB (s : Snp) : ByteArray := textOf (Rc.snap s)
def out0 (s : St) (h : Hrd) : List ByteArray := if h.term = s.hard.term ∧ h.vote = s.hard.vote then [] else [hardB h]
def out1 (s : St) (l : List Ent) : List ByteArray := if 0 < l.length ∧ (l.getD 0 Ent.zero).index ≤ Rl.lastI s.snap s.es then [cutB (l.getD 0 Ent.zero).index] else []
def out (s : St) (h : Hrd) (l : List Ent) : List ByteArray := out0 s h ++ out1 s l ++ l.map entB
def rightO : Option St → Option St
  | none => none
  | some s => if rightB s.hard s.snap s.es = true then some s else none
def saved (s : St) (h : Hrd) (l : List Ent) : Option St := rightO (said s (out s h l))
def saveE (M : DM) (n : Int) (s : St) (h : Hrd) (l : List Ent) : Int := match saved s h l with | none => 1 | some _ => if (out s h l).length = 0 then 0 else Wal.appE M n (out s h l)
def saveM (M : DM) (n : Int) (s : St) (h : Hrd) (l : List Ent) : DM := match saved s h l with | none => M | some _ => if (out s h l).length = 0 then M else Wal.app M n (out s h l)
def saveS (M : DM) (n : Int) (s : St) (h : Hrd) (l : List Ent) : St := match saved s h l with | none => s | some s' => if (out s h l).length = 0 then s else if Wal.appE M n (out s h l) = 0 then s' else s
/-- what Anew writes -/
def anewR (s : St) : List ByteArray := hardB s.hard :: snapB s.snap :: s.es.map entB
def anewOk (s : St) : Bool := rightB s.hard s.snap s.es && decide (s.snap.data.size ≤ 32768)
def anewE (M : DM) (n : Int) (s : St) : Int := if anewOk s = true then Wal.anewE M n (anewR s) else 1
def anewM (M : DM) (n : Int) (s : St) : DM := if anewOk s = true then Wal.anew M n (anewR s) else M
def anewS (M : DM) (n : Int) (old s : St) : St := if anewOk s = true then (if Wal.anewE M n (anewR s) = 0 then s else old) else old
end Sto
/-- what Save and Anew leave -/
def StoreEnd (k : Int) (M' : DM) (s' : St) (base t g d mb : Nat) (w : World) (e : Ending) (w' : World) : Prop :=
  e = .returned (.int .i64 k) ∧ DiskAt w' d mb M' ∧ StoreAt w' base t g s' ∧ Only (fun k => k = d ∨ k = mb ∨ k = t) w w'
theorem StoreAt.lower {w : World} {b b' t g : Nat} {s : St} (h : StoreAt w b t g s) (hb : b' ≤ b) : StoreAt w b' t g s := ⟨h.hard, h.snap, h.ex.choose, h.ex.choose_spec.1, h.ex.choose_spec.2.lower hb⟩
theorem StoreAt.keeps {S : Nat → Prop} {w w' : World} {b t g : Nat} {s : St} (h : StoreAt w b t g s) (ho : Only S w w') (ht : ¬ S t) (hr : ∀ k, b ≤ k → ¬ S k) : StoreAt w' b t g s :=
  ⟨h.hard, h.snap, h.ex.choose, h.ex.choose_spec.1.keeps ho ht, h.ex.choose_spec.2.keeps ho (fun k hk => hr k (World.ownsRow.lt h.ex.choose_spec.2.1 k hk).1)⟩
theorem StoreAt.lt {w : World} {b t g : Nat} {s : St} (h : StoreAt w b t g s) : t < w.heap.size := h.ex.choose_spec.1.lt
theorem StoreAt.apart {w : World} {b t g : Nat} {s : St} (h : StoreAt w b t g s) {p : Nat} {cs : Array Value} {ty : TypeId} (hb : Blk w p cs ty) (ht : ty ≠ 100) : t ≠ p := by
  intro e
  subst e
  obtain ⟨v, h1, -⟩ := h.ex
  unfold Blk at h1 hb
  rw [hb] at h1
  cases h1
  exact ht rfl
theorem StoreAt.apartM {w : World} {b t g d mb : Nat} {s : St} {M : DM} (h : StoreAt w b t g s) (hd : DiskAt w d mb M) : t ≠ d ∧ t ≠ mb := by
  constructor
  · exact h.apart hd.blk (by decide)
  · intro e
    obtain ⟨D, ⟨es, clock, hb, _⟩, _⟩ := hd.files
    obtain ⟨v, h1, -⟩ := h.ex
    unfold Blk at h1
    rw [← e, h1] at hb
    cases hb
theorem Ents.apartD {w : World} {base d mb : Nat} {v : Value} {l : List Ent} {M : DM} (h : Ents w base v l) (hd : DiskAt w d mb M) : ∀ k, v.ownBlock = some k → ¬ (k = d ∨ k = mb) := by
  intro k hk e
  rcases e with e | e
  · exact h.apart hd.blk (by decide) (by rw [hk, e])
  · obtain ⟨D, ⟨es, clock, hb, _⟩, _⟩ := hd.files
    rcases h.1.2 with ⟨rfl, h0⟩ | ⟨g, cap, cur, rfl, _, hg, _⟩
    · simp [Value.ownBlock] at hk
    · have e' : g = k := by simpa [Value.ownBlock] using hk
      rw [← e, ← e', hg] at hb
      cases hb
theorem StoreAt.keepsD {w w' : World} {b t g d mb : Nat} {s : St} {M : DM} (h : StoreAt w b t g s) (hd : DiskAt w d mb M) (ho : Only (fun k => k = d ∨ k = mb) w w') : StoreAt w' b t g s := by
  have ha := h.apartM hd
  obtain ⟨hh, hs, v, hB, hE⟩ := h
  exact ⟨hh, hs, v, hB.keeps ho (fun e => e.elim ha.1 ha.2), hE.keeps ho (hE.apartD hd)⟩
theorem StV.keeps {S : Nat → Prop} {w w' : World} {b p : Nat} {s : St} {v : Value} (h : StV w b p s v) (ho : Only S w w') (hp : ¬ S p) (hv : ∀ k, v.ownBlock = some k → ¬ S k) : StV w' b p s v :=
  ⟨h.from_, h.hard, h.snap, h.blk.keeps ho hp, h.row.keeps ho hv⟩
/-- a row of texts grows: the state's block and row stay -/
theorem StV.grown {w w' : World} {b b2 p : Nat} {s : St} {v u : Value} {l : List ByteArray} (h : StV w b p s v) (hs : Strs w b2 u l) (hg : w.grownBy w' u.ownBlock) : StV w' b p s v :=
  h.keeps (Only.of_grown hg) (fun e => hs.apart h.blk (by decide) e) (fun k hk e => hs.apartE h.row k e hk)
theorem wf_both {x : Int} (h : (Lit.int .i64 x).wf = true) : -9223372036854775808 ≤ x ∧ x ≤ 9223372036854775807 := by
  have hb := (by simpa [Lit.wf] using h : IntKind.i64.min ≤ x ∧ x ≤ 9223372036854775807)
  exact hb
end Go.Proofs.Ytekmjhenhgmpgaa

/- Two votes compared. -/
namespace Go.Proofs.Ytekmjhenhgmpgaa
open Go.RowKit
set_option maxRecDepth 100000
section
variable {ops : Array Oper} {rest : List Oper} {o : Oper} {a : Act} {Q : Exit → Act → World → Prop}
theorem run_neq_hard (w : World) (a1 b1 : Nat) (a2 b2 : Int) : (Go.binOp .neq 37 (.agg #[.int .u64 a1, .int .i64 a2]) (.agg #[.int .u64 b1, .int .i64 b2])).run Try.prog w = .ok (.bool !(decide (a1 = b1 ∧ a2 = b2))) w := by
  by_cases h1 : a1 = b1
  · by_cases h2 : a2 = b2
    · subst h1; subst h2
      go_simp
    · subst h1
      go_simp
  · by_cases h2 : a2 = b2
    · subst h2
      go_simp
      omega
    · go_simp
theorem wpList_neq_hard (w : World) (hgd : o.guard = none) (x y : Operand) (ho : o.op = .binOp .neq 37 x y 37) (a1 b1 : Nat) (a2 b2 : Int)
    (hx : a.eval x = .agg #[.int .u64 a1, .int .i64 a2]) (hy : a.eval y = .agg #[.int .u64 b1, .int .i64 b2])
    (h : wpList Try.prog ops Q rest (a.put o.dst (.bool !(decide (a1 = b1 ∧ a2 = b2)))) w) : wpList Try.prog ops Q (o :: rest) a w := by
  refine wpList_plain hgd fun K hK => ?_
  unfold Oper.wp execOp
  simp only [ho, hx, hy]
  have hg : (eqGuard .neq 37 x y (Value.agg #[Value.int IntKind.u64 ↑a1, Value.int IntKind.i64 a2]) (Value.agg #[Value.int IntKind.u64 ↑b1, Value.int IntKind.i64 b2])).run Try.prog w = .ok () w := by go_simp
  simp only [Sem.run_bind, hg, Result.andThen_ok, run_neq_hard, Sem.run_pure]
  exact hK _ _ h
end
end Go.Proofs.Ytekmjhenhgmpgaa

/- Save: what the plain data say. -/
namespace Go.Proofs.Ytekmjhenhgmpgaa
open Go.RowKit
set_option maxRecDepth 100000

set_option maxHeartbeats 4000000 in
theorem save_at (w : World) (base t g d mb : Nat) (M : DM) (n : Int) (s : St) (h : Hrd) (hh : h.Wf) (ao : Option Addr) (cap : Nat) (l : List Ent)
    (hd : DiskAt w d mb M) (hw : (Lit.int .i64 n).wf = true) (hg : LogAt w g d n) (hS : StoreAt w base t g s) (hbase : base ≤ w.heap.size) (hl : EntsIn w ao l)
    (hse : s.es.length ≤ 1000000000) (hle : l.length ≤ 1000000000) (hdat : ∀ e ∈ l, e.data.size ≤ 1000000000) (hsz : (Wal.text (Sto.out s h l)).size ≤ 1000000000) :
    Calls Try.prog 19 #[.pointer (some ⟨t, 0, none⟩), .agg #[.int .u64 h.term, .int .i64 h.vote], .slice ao l.length cap] w (StoreEnd (Sto.saveE M n s h l) (Sto.saveM M n s h l) (Sto.saveS M n s h l) base t g d mb w) := by
  have hS0 := hS
  obtain ⟨⟨t0, v0⟩, ⟨si, st, sc, sd⟩, es⟩ := s
  obtain ⟨ht, hv⟩ := h
  obtain ⟨hsh, hss, v, hB, hE⟩ := hS
  obtain ⟨hh1, hh2⟩ := hh
  simp only at hsh hss hB hE hse hh1 hh2
  obtain ⟨ao0, cap0, rfl⟩ := hE.shape
  obtain ⟨hin, -, -⟩ := hE.read (by omega)
  have hgd := hg.apart hd
  have htd := hS0.apartM hd
  have htg := hS0.apart hg (by decide)
  have htl := hS0.lt
  have HS0 := Lib.hid hS0
  have HD0 := Lib.hid hd
  have HG0 := Lib.hid hg
  clear hS0 hd hg
  have hbh := Blk.made w #[.int .u64 ht, .int .i64 hv] 37
  have hn := (Only.refl NoBlock w).alloc (Obj.cells #[.int .u64 ht, .int .i64 hv] 37)
  have hz1 : (w.alloc (Obj.cells #[.int .u64 ht, .int .i64 hv] 37)).heap.size = w.heap.size + 1 := by simp
  go_enter Try.func19, Try.ntmps19
  go_upto_region 1 with fail
  generalize w.alloc (Obj.cells #[.int .u64 ht, .int .i64 hv] 37) = w1 at hbh hn hz1 ⊢
  have hB1 := hB.keeps hn (fun h => h)
  have c1 : w1.cell? ⟨t, 1, none⟩ = some (.int .u64 t0) := by rw [hB1.cell]; rfl
  have c2 : w1.cell? ⟨t, 2, none⟩ = some (.int .i64 v0) := by rw [hB1.cell]; rfl
  have c3 : w1.cell? ⟨t, 3, none⟩ = some (.int .u64 si) := by rw [hB1.cell]; rfl
  have c4 : w1.cell? ⟨t, 4, none⟩ = some (.int .u64 st) := by rw [hB1.cell]; rfl
  have c5 : w1.cell? ⟨t, 5, none⟩ = some (.int .u64 sc) := by rw [hB1.cell]; rfl
  have c6 : w1.cell? ⟨t, 6, none⟩ = some (.string sd) := by rw [hB1.cell]; rfl
  have c7 : w1.cell? ⟨t, 7, none⟩ = some (.slice ao0 es.length cap0) := by rw [hB1.cell]; rfl
  have hin1 := hin.keeps hn (fun _ _ h => h)
  go_wp2_with fail
  refine (copied_as w1 t0 v0 si st sc sd ao0 cap0 es hin1 (by omega)).mono ?_
  rintro e w2 ⟨v2, rfl, hE2, hO2⟩
  obtain ⟨ao2, cap2, rfl⟩ := hE2.shape
  have hb2 := hbh.keeps hO2 (fun h => h)
  have hn2 := hn.trans hO2
  have hz2 := hO2.size
  clear hB1 c1 c2 c3 c4 c5 c6 c7 hin1 hbh hn hO2 hin hB hE
  go_upto_region 4 with fail
  have hbS := Blk.made w2 #[.int .u64 t0, .int .i64 v0, .int .u64 si, .int .u64 st, .int .u64 sc, .string sd, .slice ao2 es.length cap2] 42
  have hA := (Only.refl NoBlock w2).alloc (Obj.cells #[.int .u64 t0, .int .i64 v0, .int .u64 si, .int .u64 st, .int .u64 sc, .string sd, .slice ao2 es.length cap2] 42)
  have hE3 := (hE2.keeps hA (fun _ _ h => h)).lower (b' := w.heap.size) (by omega)
  have hb3 := hb2.keeps hA (fun h => h)
  have hn3 := hn2.trans hA
  have hBS : w.heap.size < w2.heap.size := hb2.lt
  generalize w2.heap.size = B at hbS hA hBS ⊢
  generalize w2.alloc (Obj.cells #[.int .u64 t0, .int .i64 v0, .int .u64 si, .int .u64 st, .int .u64 sc, .string sd, .slice ao2 es.length cap2] 42) = w3 at hbS hA hE3 hb3 hn3 ⊢
  clear hE2 hb2 hn2 hA
  have hV3 : StV w3 w.heap.size B ⟨⟨t0, v0⟩, ⟨si, st, sc, sd⟩, es⟩ (.slice ao2 es.length cap2) := ⟨Nat.le_of_lt hBS, hsh, hss, hbS, hE3⟩
  have c0 : w3.cell? ⟨B, 0, none⟩ = some (.int .u64 t0) := by rw [hbS.cell]; rfl
  have c1 : w3.cell? ⟨B, 1, none⟩ = some (.int .i64 v0) := by rw [hbS.cell]; rfl
  have x0 : w3.cell? ⟨w.heap.size, 0, none⟩ = some (.int .u64 ht) := by rw [hb3.cell]; rfl
  have x1 : w3.cell? ⟨w.heap.size, 1, none⟩ = some (.int .i64 hv) := by rw [hb3.cell]; rfl
  have HQ : RowKit.Hid (Sto.out0 ⟨⟨t0, v0⟩, ⟨si, st, sc, sd⟩, es⟩ ⟨ht, hv⟩ = if decide (ht = t0 ∧ hv = v0) = true then [] else [Sto.hardB ⟨ht, hv⟩]) := Lib.hid (by unfold Sto.out0; simp only [decide_eq_true_eq])
  generalize hqd : decide (ht = t0 ∧ hv = v0) = q at HQ
  have HQD := Lib.hid hqd
  clear hqd
  go_upto_if 26 with (first
    | (refine wpList_neq_hard w3 rfl _ _ rfl ht t0 hv v0 rfl rfl ?_; rw [HQD.out]; simp only [Act.put, List.setIfInBounds_toArray, List.set_cons_zero, List.set_cons_succ]))
  go_cut [8] (fun v8 wx => ∃ X, Strs wx w.heap.size v8 X ∧ RowKit.Hid (X = Sto.out0 ⟨⟨t0, v0⟩, ⟨si, st, sc, sd⟩, es⟩ ⟨ht, hv⟩) ∧ X.length ≤ 1 ∧ StV wx w.heap.size B ⟨⟨t0, v0⟩, ⟨si, st, sc, sd⟩, es⟩ (.slice ao2 es.length cap2) ∧ Only NoBlock w wx)
  case first =>
    cases q with
    | true =>
      rw [if_pos rfl] at HQ
      go_wp2_with fail
      go_meet
      exact ⟨[], Strs.nil _ _, Lib.hid HQ.out.symm, by simp, hV3, hn3⟩
    | false =>
      rw [if_neg (by decide)] at HQ
      go_wp2_with fail
      refine (hardrec_at w3 ht hv hh1 (wf_both hh2).1 (wf_both hh2).2).mono ?_
      rintro e w4 ⟨rfl, hO4⟩
      have hV4 := hV3.keeps hO4 (fun h => h) (fun _ _ h => h)
      have hn4 := hn3.trans hO4
      have hz4 := hn4.size
      go_wp2_with (first
        | (at_builtin; refine wpList_append_str _ rfl _ _ rfl w.heap.size (.slice none 0 0) [] (textOf (Rc.hard ⟨ht, hv⟩)) ⟨w4.heap.size, 0, none⟩ 1 rfl (Strs.nil _ _) rfl (cell_str _ _ _ _ rfl) (by decide) (by simp; omega) ?_; intro v5 w5 hs5 hg5))
      go_meet
      have hA4 := (Only.refl NoBlock w4).alloc (Obj.cells #[.string (textOf (Rc.hard ⟨ht, hv⟩))] 9)
      refine ⟨_, hs5, Lib.hid HQ.out.symm, by simp, (hV4.keeps hA4 (fun h => h) (fun _ _ h => h)).grown (Strs.nil _ w.heap.size) hg5, (hn4.trans hA4).grown hg5 (fun k hk => by cases hk)⟩
  case rest =>
    obtain ⟨X, hX, HX, hXl, hV4, hn4⟩ := hcut
    clear c0 c1 x0 x1 hV3 hbS hb3 hE3 hn3 hz2 HQ
    rename_i v8 wc
    go_upto_if 34 with (fail)
    go_cut [8] (fun v8 wx => ∃ Y, Strs wx w.heap.size v8 (X ++ Y) ∧ RowKit.Hid (Y = Sto.out1 ⟨⟨t0, v0⟩, ⟨si, st, sc, sd⟩, es⟩ l) ∧ Y.length ≤ 1 ∧ StV wx w.heap.size B ⟨⟨t0, v0⟩, ⟨si, st, sc, sd⟩, es⟩ (.slice ao2 es.length cap2) ∧ Only NoBlock w wx)
    case first =>
      by_cases hl0 : 0 < l.length
      · obtain ⟨bb, off, rfl, e0, e1, -, -⟩ := (hl.keeps hn4 (fun _ _ h => h)).cell 0 hl0
        simp only [Nat.zero_mul, Nat.add_zero, Nat.zero_add] at e0 e1
        have ho1 : Sto.out1 ⟨⟨t0, v0⟩, ⟨si, st, sc, sd⟩, es⟩ l = if (l.getD 0 Ent.zero).index ≤ Rl.lastI ⟨si, st, sc, sd⟩ es then [Sto.cutB (l.getD 0 Ent.zero).index] else [] := by
          unfold Sto.out1; simp only [hl0, true_and]
        have hyw : (l.getD 0 Ent.zero).index < 18446744073709551616 := (hl.at_wf hl0).index
        have HO1 := Lib.hid ho1
        clear ho1
        generalize hyy : (l.getD 0 Ent.zero).index = y at e1 HO1 hyw
        have HYY := Lib.hid hyy
        clear hyy
        generalize (l.getD 0 Ent.zero).term = yt at e0
        have hin4 := (hV4.row.read (by omega)).1
        have hB4 := hV4.blk
        simp only [stCells] at hB4
        have c0 : wc.cell? ⟨B, 0, none⟩ = some (.int .u64 t0) := by rw [hB4.cell]; rfl
        have c1 : wc.cell? ⟨B, 1, none⟩ = some (.int .i64 v0) := by rw [hB4.cell]; rfl
        have c2 : wc.cell? ⟨B, 2, none⟩ = some (.int .u64 si) := by rw [hB4.cell]; rfl
        have c3 : wc.cell? ⟨B, 3, none⟩ = some (.int .u64 st) := by rw [hB4.cell]; rfl
        have c4 : wc.cell? ⟨B, 4, none⟩ = some (.int .u64 sc) := by rw [hB4.cell]; rfl
        have c5 : wc.cell? ⟨B, 5, none⟩ = some (.string sd) := by rw [hB4.cell]; rfl
        have c6 : wc.cell? ⟨B, 6, none⟩ = some (.slice ao2 es.length cap2) := by rw [hB4.cell]; rfl
        go_wp2_with fail
        refine (last_at wc ⟨t0, v0⟩ ⟨si, st, sc, sd⟩ ao2 cap2 es hin4 (by omega)).mono ?_
        rintro e w5 ⟨rfl, hO5⟩
        have hV5 := hV4.keeps hO5 (fun h => h) (fun _ _ h => h)
        have hn5 := hn4.trans hO5
        have hX5 := hX.keeps hO5 (fun _ _ h => h)
        have hz5 := hn5.size
        obtain ⟨b', off', he', f0, f1, -, -⟩ := (hl.keeps hn5 (fun _ _ h => h)).cell 0 hl0
        cases he'
        simp only [Nat.zero_mul, Nat.add_zero, Nat.zero_add] at f1
        rw [HYY.out] at f1
        clear e0 e1 f0
        clear c0 c1 c2 c3 c4 c5 c6 hB4 hin4 hV4 hn4 hX
        generalize Rl.lastI ⟨si, st, sc, sd⟩ es = li at HO1 ⊢
        generalize Rl.lastT ⟨si, st, sc, sd⟩ es = lt
        by_cases hle5 : y ≤ li
        · have d1 : decide (y ≤ li) = true := by simpa using hle5
          rw [if_pos hle5] at HO1
          clear hle5
          go_wp2_with fail
          refine (cutrec_at w5 y hyw).mono ?_
          rintro e w6 ⟨rfl, hO6⟩
          have hV6 := hV5.keeps hO6 (fun h => h) (fun _ _ h => h)
          have hn6 := hn5.trans hO6
          have hX6 := hX5.keeps hO6 (fun _ _ h => h)
          have hz6 := hn6.size
          have hA6 := (Only.refl NoBlock w6).alloc (Obj.cells #[.string (textOf (Rc.cut y))] 9)
          go_wp2_with (first
            | (at_builtin; refine wpList_append_str _ rfl _ _ rfl w.heap.size _ X (textOf (Rc.cut y)) ⟨w6.heap.size, 0, none⟩ 1 rfl (hX6.keeps hA6 (fun _ _ h => h)) rfl (cell_str _ _ _ _ rfl) (by omega) (by simp; omega) ?_; intro v7 w7 hs7 hg7))
          go_meet
          exact ⟨_, hs7, Lib.hid HO1.out.symm, by simp, (hV6.keeps hA6 (fun h => h) (fun _ _ h => h)).grown (hX6.keeps hA6 (fun _ _ h => h)) hg7, (hn6.trans hA6).grown hg7 (fun k hk hl => absurd (World.ownsRow.lt hX6 k hk).1 (by omega))⟩
        · have d1 : decide (y ≤ li) = false := by simpa using hle5
          rw [if_neg hle5] at HO1
          clear hle5
          go_wp2_with fail
          go_meet
          exact ⟨[], by rw [List.append_nil]; exact hX5, Lib.hid HO1.out.symm, by simp, hV5, hn5⟩
      · have HO1 : RowKit.Hid (Sto.out1 ⟨⟨t0, v0⟩, ⟨si, st, sc, sd⟩, es⟩ l = []) := Lib.hid (by unfold Sto.out1; rw [if_neg (fun h => hl0 h.1)])
        go_wp2_with fail
        go_meet
        exact ⟨[], by rw [List.append_nil]; exact hX, Lib.hid HO1.out.symm, by simp, hV4, hn4⟩
    case rest =>
      obtain ⟨Y, hY, HY, hYl, hV5, hn5⟩ := hcut
      clear hX hV4 hn4
      rename_i v8b wc2
      have HXY : RowKit.Hid (Sto.out ⟨⟨t0, v0⟩, ⟨si, st, sc, sd⟩, es⟩ ⟨ht, hv⟩ l = X ++ Y ++ l.map Sto.entB) := Lib.hid (by unfold Sto.out; rw [HX.out, HY.out])
      go_wp2_with fail
      go_loopw [8, 56] (fun u8 u56 wr => ∃ k : Nat, k ≤ l.length ∧ u56 = .int .i64 k ∧ Strs wr w.heap.size u8 (X ++ Y ++ (l.take k).map Sto.entB) ∧ StV wr w.heap.size B ⟨⟨t0, v0⟩, ⟨si, st, sc, sd⟩, es⟩ (.slice ao2 es.length cap2) ∧ Only NoBlock w wr) (fun _ u56 _ => l.length - (intOf u56).toNat)
      case atStart => exact ⟨0, by omega, rfl, by simpa using hY, hV5, hn5⟩
      case round =>
        clear hY hV5 hn5
        obtain ⟨k, hk, rfl, hR, hV6, hn6⟩ := hrel
        by_cases hlt : k < l.length
        · obtain ⟨bb, off, rfl, e0, e1, e2, e3⟩ := (hl.keeps hn6 (fun _ _ h => h)).cell k hlt
          have hwf := hl.at_wf hlt
          have hdk : (l.getD k Ent.zero).data.size ≤ 1000000000 := by
            rw [List.getD_eq_getElem?_getD, List.getElem?_eq_getElem hlt]
            exact hdat _ (List.getElem_mem hlt)
          have hts : (l.take (k + 1)).map Sto.entB = (l.take k).map Sto.entB ++ [Sto.entB (l.getD k Ent.zero)] := by
            rw [List.take_add_one, List.getElem?_eq_getElem hlt, List.getD_eq_getElem?_getD, List.getElem?_eq_getElem hlt, List.map_append]; rfl
          have HTS := Lib.hid hts
          have hlk : (X ++ Y ++ (l.take k).map Sto.entB).length ≤ 2 + k := by simp; omega
          clear hts
          generalize l.getD k Ent.zero = en at e0 e1 e2 e3 hwf hdk HTS
          obtain ⟨et, ei, ek, ed⟩ := en
          obtain ⟨hw1, hw2, hw3, hw4⟩ := hwf
          simp only at e0 e1 e2 e3 hw1 hw2 hw3 hw4 hdk
          have hz6 := hn6.size
          go_wp2_with fail
          have hAe := (Only.refl NoBlock wr).alloc (Obj.cells #[.int .u64 et, .int .u64 ei, .int .i64 ek, .string ed] 77)
          generalize wr.alloc (Obj.cells #[.int .u64 et, .int .u64 ei, .int .i64 ek, .string ed] 77) = wE at hAe ⊢
          refine (entryrec_at wE et ei ek ed hw1 hw2 (by omega)).mono ?_
          rintro e w7 ⟨rfl, hO7⟩
          have hO67 := hAe.trans hO7
          have hV7 := hV6.keeps hO67 (fun h => h) (fun _ _ h => h)
          have hn7 := hn6.trans hO67
          have hR7 := hR.keeps hO67 (fun _ _ h => h)
          have hz7 := hn7.size
          have hA7 := (Only.refl NoBlock w7).alloc (Obj.cells #[.string (textOf (Rc.entry ⟨et, ei, ek, ed⟩))] 9)
          clear hR hV6 hn6 hO7 hAe hz6 e0 e1 e2 e3
          go_wp2_with (first
            | (at_builtin; refine wpList_append_str _ rfl _ _ rfl w.heap.size _ (X ++ Y ++ (l.take k).map Sto.entB) (textOf (Rc.entry ⟨et, ei, ek, ed⟩)) ⟨w7.heap.size, 0, none⟩ 1 rfl (hR7.keeps hA7 (fun _ _ h => h)) rfl (cell_str _ _ _ _ rfl) (by omega) (by simp; omega) ?_; intro v8 w8 hs8 hg8))
          go_roundw
          case rel =>
            refine ⟨k + 1, by omega, by go_num, ?_, (hV7.keeps hA7 (fun h => h) (fun _ _ h => h)).grown (hR7.keeps hA7 (fun _ _ h => h)) hg8, (hn7.trans hA7).grown hg8 (fun k hk hl => absurd (World.ownsRow.lt hR7 k hk).1 (by omega))⟩
            rw [HTS.out, ← List.append_assoc]
            exact hs8
          case measure => simp [intOf]; omega
        · obtain rfl : k = l.length := by omega
          rw [List.take_length, ← HXY.out] at hR
          have hol : (Sto.out ⟨⟨t0, v0⟩, ⟨si, st, sc, sd⟩, es⟩ ⟨ht, hv⟩ l).length ≤ 2 + l.length := by rw [HXY.out]; simp; omega
          have HSV : RowKit.Hid (Sto.saved ⟨⟨t0, v0⟩, ⟨si, st, sc, sd⟩, es⟩ ⟨ht, hv⟩ l = Sto.rightO (Sto.said ⟨⟨t0, v0⟩, ⟨si, st, sc, sd⟩, es⟩ (Sto.out ⟨⟨t0, v0⟩, ⟨si, st, sc, sd⟩, es⟩ ⟨ht, hv⟩ l))) := Lib.hid rfl
          have HSE : RowKit.Hid (Sto.saveE M n ⟨⟨t0, v0⟩, ⟨si, st, sc, sd⟩, es⟩ ⟨ht, hv⟩ l = match Sto.saved ⟨⟨t0, v0⟩, ⟨si, st, sc, sd⟩, es⟩ ⟨ht, hv⟩ l with | none => 1 | some _ => if (Sto.out ⟨⟨t0, v0⟩, ⟨si, st, sc, sd⟩, es⟩ ⟨ht, hv⟩ l).length = 0 then 0 else Wal.appE M n (Sto.out ⟨⟨t0, v0⟩, ⟨si, st, sc, sd⟩, es⟩ ⟨ht, hv⟩ l)) := Lib.hid rfl
          have HSM : RowKit.Hid (Sto.saveM M n ⟨⟨t0, v0⟩, ⟨si, st, sc, sd⟩, es⟩ ⟨ht, hv⟩ l = match Sto.saved ⟨⟨t0, v0⟩, ⟨si, st, sc, sd⟩, es⟩ ⟨ht, hv⟩ l with | none => M | some _ => if (Sto.out ⟨⟨t0, v0⟩, ⟨si, st, sc, sd⟩, es⟩ ⟨ht, hv⟩ l).length = 0 then M else Wal.app M n (Sto.out ⟨⟨t0, v0⟩, ⟨si, st, sc, sd⟩, es⟩ ⟨ht, hv⟩ l)) := Lib.hid rfl
          have HSS : RowKit.Hid (Sto.saveS M n ⟨⟨t0, v0⟩, ⟨si, st, sc, sd⟩, es⟩ ⟨ht, hv⟩ l = match Sto.saved ⟨⟨t0, v0⟩, ⟨si, st, sc, sd⟩, es⟩ ⟨ht, hv⟩ l with | none => ⟨⟨t0, v0⟩, ⟨si, st, sc, sd⟩, es⟩ | some s' => if (Sto.out ⟨⟨t0, v0⟩, ⟨si, st, sc, sd⟩, es⟩ ⟨ht, hv⟩ l).length = 0 then ⟨⟨t0, v0⟩, ⟨si, st, sc, sd⟩, es⟩ else if Wal.appE M n (Sto.out ⟨⟨t0, v0⟩, ⟨si, st, sc, sd⟩, es⟩ ⟨ht, hv⟩ l) = 0 then s' else ⟨⟨t0, v0⟩, ⟨si, st, sc, sd⟩, es⟩) := Lib.hid rfl
          have hou : ∀ b ∈ Sto.out ⟨⟨t0, v0⟩, ⟨si, st, sc, sd⟩, es⟩ ⟨ht, hv⟩ l, b.size ≤ 1000000000 := by
            intro b hb
            obtain ⟨i, hi, rfl⟩ := List.mem_iff_getElem.1 hb
            have := Wal.frame_in hi
            rw [List.getD_eq_getElem?_getD, List.getElem?_eq_getElem hi] at this
            exact Nat.le_trans this hsz
          generalize Sto.saved ⟨⟨t0, v0⟩, ⟨si, st, sc, sd⟩, es⟩ ⟨ht, hv⟩ l = sv at HSE HSM HSS HSV
          generalize Sto.out ⟨⟨t0, v0⟩, ⟨si, st, sc, sd⟩, es⟩ ⟨ht, hv⟩ l = Z at HSE HSM HSS HSV hR hol hou hsz
          clear HXY HX HY
          obtain ⟨az, cz, rfl⟩ := hR.shape
          go_wp2_with fail
          go_loopw [68] (fun u68 wr => ∃ (k : Nat) (s' : St) (v' : Value), k ≤ Z.length ∧ u68 = .int .i64 k ∧ RowKit.Hid (Sto.said ⟨⟨t0, v0⟩, ⟨si, st, sc, sd⟩, es⟩ (Z.take k) = some s') ∧ StV wr w.heap.size B s' v' ∧ Only NoBlock w wr ∧ Strs wr w.heap.size (.slice az Z.length cz) Z) (fun u68 _ => Z.length - (intOf u68).toNat)
          case atStart => exact ⟨0, ⟨⟨t0, v0⟩, ⟨si, st, sc, sd⟩, es⟩, _, by omega, rfl, Lib.hid rfl, hV6, hn6, hR⟩
          case round =>
            clear hR hV6 hn6
            obtain ⟨k, s', v', hk2, rfl, HSD, hV6, hn6, hR⟩ := hrel
            have hrd := hR.read.1
            have hsl := Sto.said_len _ _ _ HSD.out
            have hel : s'.es.length ≤ 3000000000 := by rw [List.length_take] at hsl; simp only at hsl; omega
            by_cases hlt2 : k < Z.length
            · obtain ⟨bz, oz, rfl, cz0⟩ := hrd.at hlt2
              have hbk : (Z.getD k ByteArray.empty).size ≤ 1000000000000 := by
                rw [List.getD_eq_getElem?_getD, List.getElem?_eq_getElem hlt2]
                exact Nat.le_trans (hou _ (List.getElem_mem hlt2)) (by decide)
              have hts := Wal.take_snoc hlt2
              have hsn := Sto.said_snoc (Z.take k) ⟨⟨t0, v0⟩, ⟨si, st, sc, sd⟩, es⟩ (Z.getD k ByteArray.empty)
              rw [← hts, HSD.out] at hsn
              have HSN := Lib.hid hsn
              clear hsn hts hsl
              generalize Z.getD k ByteArray.empty = bk at cz0 hbk HSN
              go_wp2_with fail
              refine (take_row wr w.heap.size B s' v' hV6 (by omega) bk hbk).mono ?_
              rintro e w9 ⟨hO9, hE9⟩
              have hz9 := hn6.size
              have hn9 : Only NoBlock w w9 := hn6.andThen hO9 (fun j hj e => e.elim (fun e => absurd (e ▸ hj) (by omega)) (fun e => absurd (World.ownsRow.lt hV6.row.1 j e).1 (by omega)))
              have hR9 : Strs w9 w.heap.size (.slice (some ⟨bz, oz, none⟩) Z.length cz) Z := hR.keeps hO9 (fun j hj e => e.elim (fun e => hR.apart hV6.blk (by decide) (by rw [hj, e])) (fun e => hR.apartE hV6.row j hj e))
              rcases hE9 with ⟨s2, v2', ht2, rfl, hV9, -⟩ | ⟨ht2, rfl⟩
              · have HS2 : RowKit.Hid (Sto.said ⟨⟨t0, v0⟩, ⟨si, st, sc, sd⟩, es⟩ (Z.take (k + 1)) = some s2) := Lib.hid (HSN.out.trans ht2)
                clear ht2 HSN hO9 hV6 hn6 hR cz0 hrd
                go_wp2_with fail
                go_roundw
                case rel => exact ⟨k + 1, s2, v2', by omega, by go_num, HS2, hV9, hn9, hR9⟩
                case measure => simp [intOf]; omega
              · have hno : Sto.said ⟨⟨t0, v0⟩, ⟨si, st, sc, sd⟩, es⟩ Z = none := Sto.said_none Z (k + 1) _ (HSN.out.trans ht2)
                have hsv : sv = none := by rw [HSV.out, hno]; rfl
                have HV2 := Lib.hid hsv
                clear ht2 HSN hno hsv
                go_wp2_with fail
                go_ret
                refine ⟨by rw [HSE.out, HV2.out]; rfl, by rw [HSM.out, HV2.out]; exact HD0.out.keeps hn9 (fun h => h) (fun h => h), by rw [HSS.out, HV2.out]; exact HS0.out.keeps hn9 (fun h => h) (fun _ _ h => h), hn9.of_no⟩
            · obtain rfl : k = Z.length := by omega
              rw [List.take_length] at HSD
              obtain ⟨⟨ht', hv'⟩, ⟨si', st', sc', sd'⟩, es'⟩ := s'
              obtain ⟨-, hh', hs', hB6, hE6⟩ := hV6
              simp only [stCells] at hh' hs' hB6 hE6 hel
              obtain ⟨ao6, cap6, rfl⟩ := hE6.shape
              obtain ⟨hin6, -, -⟩ := hE6.read (by omega)
              have c0 : wr.cell? ⟨B, 0, none⟩ = some (.int .u64 ht') := by rw [hB6.cell]; rfl
              have c1 : wr.cell? ⟨B, 1, none⟩ = some (.int .i64 hv') := by rw [hB6.cell]; rfl
              have c2 : wr.cell? ⟨B, 2, none⟩ = some (.int .u64 si') := by rw [hB6.cell]; rfl
              have c3 : wr.cell? ⟨B, 3, none⟩ = some (.int .u64 st') := by rw [hB6.cell]; rfl
              have c4 : wr.cell? ⟨B, 4, none⟩ = some (.int .u64 sc') := by rw [hB6.cell]; rfl
              have c5 : wr.cell? ⟨B, 5, none⟩ = some (.string sd') := by rw [hB6.cell]; rfl
              have c6 : wr.cell? ⟨B, 6, none⟩ = some (.slice ao6 es'.length cap6) := by rw [hB6.cell]; rfl
              go_wp2_with fail
              refine (right_at wr ⟨ht', hv'⟩ hh' ⟨si', st', sc', sd'⟩ hs' ao6 cap6 es' hin6 (by omega)).mono ?_
              rintro e w7 ⟨rfl, hO7⟩
              have hn7 := hn6.trans hO7
              have hR7 := hR.keeps hO7 (fun _ _ h => h)
              have hB7 := hB6.keeps hO7 (fun h => h)
              have hE7 := hE6.keeps hO7 (fun _ _ h => h)
              clear c0 c1 c2 c3 c4 c5 c6 hR hrd hB6 hE6 hin6 hn6 hO7
              cases hrb : rightB ⟨ht', hv'⟩ ⟨si', st', sc', sd'⟩ es' with
              | false =>
                have hsv : sv = none := by rw [HSV.out, HSD.out]; unfold Sto.rightO; simp only; rw [if_neg (by rw [hrb]; decide)]
                have HV2 := Lib.hid hsv
                clear hrb hsv
                go_wp2_with fail
                go_ret
                refine ⟨by rw [HSE.out, HV2.out]; rfl, by rw [HSM.out, HV2.out]; exact HD0.out.keeps hn7 (fun h => h) (fun h => h), by rw [HSS.out, HV2.out]; exact HS0.out.keeps hn7 (fun h => h) (fun _ _ h => h), hn7.of_no⟩
              | true =>
                have hsv : sv = some ⟨⟨ht', hv'⟩, ⟨si', st', sc', sd'⟩, es'⟩ := by rw [HSV.out, HSD.out]; unfold Sto.rightO; simp only; rw [if_pos hrb]
                subst hsv
                simp only at HSE HSM HSS
                clear hrb HSV HSD
                by_cases hz : Z.length = 0
                · rw [if_pos hz] at HSE HSM HSS
                  go_wp2_with fail
                  go_ret
                  refine ⟨by rw [HSE.out]; rfl, by rw [HSM.out]; exact HD0.out.keeps hn7 (fun h => h) (fun h => h), by rw [HSS.out]; exact HS0.out.keeps hn7 (fun h => h) (fun _ _ h => h), hn7.of_no⟩
                · rw [if_neg hz] at HSE HSM HSS
                  have hg7 : LogAt w7 g d n := Blk.keeps HG0.out hn7 (fun h => h)
                  have hd7 := HD0.out.keeps hn7 (fun h => h) (fun h => h)
                  obtain ⟨vS, hBt, hEt⟩ := HS0.out.ex
                  have hBt7 := hBt.keeps hn7 (fun h => h)
                  have k0 : w7.cell? ⟨t, 0, none⟩ = some (.pointer (some ⟨g, 0, none⟩)) := by rw [hBt7.cell]; rfl
                  have hzi := hR7.read.1
                  go_wp2_with fail
                  refine (log_append_at w7 g d mb M n az cz Z hd7 hg7 hw hzi hsz).mono ?_
                  rintro e w8 ⟨rfl, hd8, hO8⟩
                  have hdl := HD0.out.blk.lt
                  have hml := HD0.out.files.lt
                  have hz7 := hn7.size
                  have hn8 : Only (fun k => k = d ∨ k = mb) w w8 := hn7.of_no.trans hO8
                  have hBt8 := hBt7.keeps hO8 (fun e => e.elim htd.1 htd.2)
                  by_cases hap : Wal.appE M n Z = 0
                  · rw [if_pos hap] at HSS
                    rw [hap] at HSE ⊢
                    have hB8 := hB7.keeps hO8 (fun e => by omega)
                    have hE8 := hE7.keeps hO8 (fun k hk e => by have := (World.ownsRow.lt hE7.1 k hk).1; omega)
                    clear hap hBt hBt7 k0 hg7 hd7 hB7 hE7 hO8 hR7
                    have c0 : w8.cell? ⟨B, 0, none⟩ = some (.int .u64 ht') := by rw [hB8.cell]; rfl
                    have c1 : w8.cell? ⟨B, 1, none⟩ = some (.int .i64 hv') := by rw [hB8.cell]; rfl
                    have c2 : w8.cell? ⟨B, 2, none⟩ = some (.int .u64 si') := by rw [hB8.cell]; rfl
                    have c3 : w8.cell? ⟨B, 3, none⟩ = some (.int .u64 st') := by rw [hB8.cell]; rfl
                    have c4 : w8.cell? ⟨B, 4, none⟩ = some (.int .u64 sc') := by rw [hB8.cell]; rfl
                    have c5 : w8.cell? ⟨B, 5, none⟩ = some (.string sd') := by rw [hB8.cell]; rfl
                    have c6 : w8.cell? ⟨B, 6, none⟩ = some (.slice ao6 es'.length cap6) := by rw [hB8.cell]; rfl
                    have k1 : w8.cell? ⟨t, 1, none⟩ = some (.int .u64 t0) := by rw [hBt8.cell]; rfl
                    have f1 := hBt8.free 1
                    have k2 : w8.cell? ⟨t, 2, none⟩ = some (.int .i64 v0) := by rw [hBt8.cell]; rfl
                    have f2 := hBt8.free 2
                    have k3 : w8.cell? ⟨t, 3, none⟩ = some (.int .u64 si) := by rw [hBt8.cell]; rfl
                    have f3 := hBt8.free 3
                    have k4 : w8.cell? ⟨t, 4, none⟩ = some (.int .u64 st) := by rw [hBt8.cell]; rfl
                    have f4 := hBt8.free 4
                    have k5 : w8.cell? ⟨t, 5, none⟩ = some (.int .u64 sc) := by rw [hBt8.cell]; rfl
                    have f5 := hBt8.free 5
                    have k6 : w8.cell? ⟨t, 6, none⟩ = some (.string sd) := by rw [hBt8.cell]; rfl
                    have f6 := hBt8.free 6
                    have k7 : w8.cell? ⟨t, 7, none⟩ = some vS := by rw [hBt8.cell]; rfl
                    have f7 := hBt8.free 7
                    go_wp2_with fail
                    have hz : Only (fun k => k = t) w8 ((((((((w8.setCell ⟨t, 1, none⟩ (.int .u64 ht')).setCell ⟨t, 2, none⟩ (.int .i64 hv')).setCell ⟨t, 3, none⟩ (.int .u64 si')).setCell ⟨t, 4, none⟩ (.int .u64 st')).setCell ⟨t, 5, none⟩ (.int .u64 sc')).setCell ⟨t, 6, none⟩ (.string sd')).setCell ⟨t, 7, none⟩ (.slice ao6 es'.length cap6))) := ((((((((Only.refl (fun k => k = t) w8).setCell (p := ⟨t, 1, none⟩) (fun _ => rfl) (.int .u64 ht')).setCell (p := ⟨t, 2, none⟩) (fun _ => rfl) (.int .i64 hv')).setCell (p := ⟨t, 3, none⟩) (fun _ => rfl) (.int .u64 si')).setCell (p := ⟨t, 4, none⟩) (fun _ => rfl) (.int .u64 st')).setCell (p := ⟨t, 5, none⟩) (fun _ => rfl) (.int .u64 sc')).setCell (p := ⟨t, 6, none⟩) (fun _ => rfl) (.string sd')).setCell (p := ⟨t, 7, none⟩) (fun _ => rfl) (.slice ao6 es'.length cap6))
                    have hBz : Blk ((((((((w8.setCell ⟨t, 1, none⟩ (.int .u64 ht')).setCell ⟨t, 2, none⟩ (.int .i64 hv')).setCell ⟨t, 3, none⟩ (.int .u64 si')).setCell ⟨t, 4, none⟩ (.int .u64 st')).setCell ⟨t, 5, none⟩ (.int .u64 sc')).setCell ⟨t, 6, none⟩ (.string sd')).setCell ⟨t, 7, none⟩ (.slice ao6 es'.length cap6))) t #[.pointer (some ⟨g, 0, none⟩), .int .u64 ht', .int .i64 hv', .int .u64 si', .int .u64 st', .int .u64 sc', .string sd', .slice ao6 es'.length cap6] 100 := (((((((hBt8.setCell 1 (.int .u64 ht')).setCell 2 (.int .i64 hv')).setCell 3 (.int .u64 si')).setCell 4 (.int .u64 st')).setCell 5 (.int .u64 sc')).setCell 6 (.string sd')).setCell 7 (.slice ao6 es'.length cap6))
                    have hEz := hE8.keeps hz (fun k hk e => by have := (World.ownsRow.lt hE8.1 k hk).1; have e' : k = t := e; omega)
                    have hDz := hd8.keeps hz (fun e => htd.1 e.symm) (fun e => htd.2 e.symm)
                    go_ret
                    exact ⟨by rw [HSE.out]; rfl, by rw [HSM.out]; exact hDz, by rw [HSS.out]; exact ⟨hh', hs', _, hBz, hEz.lower hbase⟩, (hn8.mono (fun k e => e.elim .inl (fun e => .inr (.inl e)))).andThen hz (fun k _ e => .inr (.inr e))⟩
                  · rw [if_neg hap] at HSS
                    have hab : (Wal.appE M n Z != 0) = true := by simpa using hap
                    have HAP := Lib.hid hap
                    clear hap
                    go_wp2_with fail
                    go_ret
                    exact ⟨by rw [HSE.out]; rfl, by rw [HSM.out]; exact hd8, by rw [HSS.out]; exact (HS0.out.keeps hn7 (fun h => h) (fun _ _ h => h)).keepsD hd7 hO8, hn8.mono (fun k e => e.elim .inl (fun e => .inr (.inl e)))⟩
end Go.Proofs.Ytekmjhenhgmpgaa

/- Anew: what the plain data say. -/
namespace Go.Proofs.Ytekmjhenhgmpgaa
open Go.RowKit
set_option maxRecDepth 100000

theorem strs_two8 (w : World) (base : Nat) (x y : ByteArray) (hb : base ≤ w.heap.size) : Strs (w.alloc (.cells #[.string x, .string y] 9)) base (.slice (some ⟨w.heap.size, 0, none⟩) 2 2) [x, y] := by
  exact World.ownsRow_lit w #[.string x, .string y] 2 hb (by decide) rfl

set_option maxHeartbeats 4000000 in
theorem sanew_raw (w : World) (base t g d mb : Nat) (M : DM) (n : Int) (old : St) (ht : Nat) (hv : Int) (si st sc : Nat) (sd : ByteArray) (es : List Ent) (ao : Option Addr) (cap : Nat)
    (hh : (⟨ht, hv⟩ : Hrd).Wf) (hs : (⟨si, st, sc, sd⟩ : Snp).Wf) (hl : EntsIn w ao es) (hd : DiskAt w d mb M) (hw : (Lit.int .i64 n).wf = true) (hg : LogAt w g d n) (hS : StoreAt w base t g old) (hbase : base ≤ w.heap.size) (hlb : ∀ wx wy : World, EntsIn wx ao es → Only (fun k => k = d ∨ k = mb) wx wy → EntsIn wy ao es)
    (hle : es.length ≤ 1000000000) (hdat : ∀ e ∈ es, e.data.size ≤ 1000000000) (hsz : (Wal.text (Sto.anewR ⟨⟨ht, hv⟩, ⟨si, st, sc, sd⟩, es⟩)).size ≤ 1000000000) :
    Calls Try.prog 24 #[.pointer (some ⟨t, 0, none⟩), .agg #[.int .u64 ht, .int .i64 hv, .int .u64 si, .int .u64 st, .int .u64 sc, .string sd, .slice ao es.length cap]] w (StoreEnd (Sto.anewE M n ⟨⟨ht, hv⟩, ⟨si, st, sc, sd⟩, es⟩) (Sto.anewM M n ⟨⟨ht, hv⟩, ⟨si, st, sc, sd⟩, es⟩) (Sto.anewS M n old ⟨⟨ht, hv⟩, ⟨si, st, sc, sd⟩, es⟩) base t g d mb w) := by
  have htd := hS.apartM hd
  have htl := hS.lt
  have HSE : RowKit.Hid (Sto.anewE M n ⟨⟨ht, hv⟩, ⟨si, st, sc, sd⟩, es⟩ = if (rightB ⟨ht, hv⟩ ⟨si, st, sc, sd⟩ es && decide (sd.size ≤ 32768)) = true then Wal.anewE M n (Sto.anewR ⟨⟨ht, hv⟩, ⟨si, st, sc, sd⟩, es⟩) else 1) := Lib.hid rfl
  have HSM : RowKit.Hid (Sto.anewM M n ⟨⟨ht, hv⟩, ⟨si, st, sc, sd⟩, es⟩ = if (rightB ⟨ht, hv⟩ ⟨si, st, sc, sd⟩ es && decide (sd.size ≤ 32768)) = true then Wal.anew M n (Sto.anewR ⟨⟨ht, hv⟩, ⟨si, st, sc, sd⟩, es⟩) else M) := Lib.hid rfl
  have HSS : RowKit.Hid (Sto.anewS M n old ⟨⟨ht, hv⟩, ⟨si, st, sc, sd⟩, es⟩ = if (rightB ⟨ht, hv⟩ ⟨si, st, sc, sd⟩ es && decide (sd.size ≤ 32768)) = true then (if Wal.anewE M n (Sto.anewR ⟨⟨ht, hv⟩, ⟨si, st, sc, sd⟩, es⟩) = 0 then ⟨⟨ht, hv⟩, ⟨si, st, sc, sd⟩, es⟩ else old) else old) := Lib.hid rfl
  have HR : RowKit.Hid (Sto.anewR ⟨⟨ht, hv⟩, ⟨si, st, sc, sd⟩, es⟩ = [textOf (Rc.hard ⟨ht, hv⟩), textOf (Rc.snap ⟨si, st, sc, sd⟩)] ++ es.map Sto.entB) := Lib.hid rfl
  have hsd := hs.data
  have hX := Blk.made w #[.int .u64 ht, .int .i64 hv, .int .u64 si, .int .u64 st, .int .u64 sc, .string sd, .slice ao es.length cap] 42
  have hn := (Only.refl NoBlock w).alloc (Obj.cells #[.int .u64 ht, .int .i64 hv, .int .u64 si, .int .u64 st, .int .u64 sc, .string sd, .slice ao es.length cap] 42)
  have hz1 : (w.alloc (Obj.cells #[.int .u64 ht, .int .i64 hv, .int .u64 si, .int .u64 st, .int .u64 sc, .string sd, .slice ao es.length cap] 42)).heap.size = w.heap.size + 1 := by simp
  have HS0 := Lib.hid hS
  have HD0 := Lib.hid hd
  have HG0 := Lib.hid hg
  have HH := Lib.hid hh
  have HSW := Lib.hid hs
  have hh1 := hh.term
  have hh2 := hh.vote
  have hs1 := hs.index
  have hs2 := hs.term
  have hs3 := hs.config
  simp only at hsd hh1 hh2 hs1 hs2 hs3
  clear hS hd hg hh hs
  go_enter Try.func24, Try.ntmps24
  go_upto_region 1 with fail
  generalize w.alloc (Obj.cells #[.int .u64 ht, .int .i64 hv, .int .u64 si, .int .u64 st, .int .u64 sc, .string sd, .slice ao es.length cap] 42) = w1 at hX hn hz1 ⊢
  have hl1 := hl.keeps hn (fun _ _ h => h)
  have x0 : w1.cell? ⟨w.heap.size, 0, none⟩ = some (.int .u64 ht) := by rw [hX.cell]; rfl
  have x1 : w1.cell? ⟨w.heap.size, 1, none⟩ = some (.int .i64 hv) := by rw [hX.cell]; rfl
  have x2 : w1.cell? ⟨w.heap.size, 2, none⟩ = some (.int .u64 si) := by rw [hX.cell]; rfl
  have x3 : w1.cell? ⟨w.heap.size, 3, none⟩ = some (.int .u64 st) := by rw [hX.cell]; rfl
  have x4 : w1.cell? ⟨w.heap.size, 4, none⟩ = some (.int .u64 sc) := by rw [hX.cell]; rfl
  have x5 : w1.cell? ⟨w.heap.size, 5, none⟩ = some (.string sd) := by rw [hX.cell]; rfl
  have x6 : w1.cell? ⟨w.heap.size, 6, none⟩ = some (.slice ao es.length cap) := by rw [hX.cell]; rfl
  go_wp2_with fail
  refine (right_at w1 ⟨ht, hv⟩ HH.out ⟨si, st, sc, sd⟩ HSW.out ao cap es hl1 (by omega)).mono ?_
  rintro e w2 ⟨rfl, hO2⟩
  have hX2 := hX.keeps hO2 (fun h => h)
  have hn2 := hn.trans hO2
  clear x0 x1 x2 x3 x4 x5 x6 hX hn hl1 hO2 hz1
  have x0 : w2.cell? ⟨w.heap.size, 0, none⟩ = some (.int .u64 ht) := by rw [hX2.cell]; rfl
  have x1 : w2.cell? ⟨w.heap.size, 1, none⟩ = some (.int .i64 hv) := by rw [hX2.cell]; rfl
  have x2 : w2.cell? ⟨w.heap.size, 2, none⟩ = some (.int .u64 si) := by rw [hX2.cell]; rfl
  have x3 : w2.cell? ⟨w.heap.size, 3, none⟩ = some (.int .u64 st) := by rw [hX2.cell]; rfl
  have x4 : w2.cell? ⟨w.heap.size, 4, none⟩ = some (.int .u64 sc) := by rw [hX2.cell]; rfl
  have x5 : w2.cell? ⟨w.heap.size, 5, none⟩ = some (.string sd) := by rw [hX2.cell]; rfl
  have x6 : w2.cell? ⟨w.heap.size, 6, none⟩ = some (.slice ao es.length cap) := by rw [hX2.cell]; rfl
  cases hrb : rightB ⟨ht, hv⟩ ⟨si, st, sc, sd⟩ es with
  | false =>
    rw [hrb, Bool.false_and, if_neg (by decide)] at HSE HSM HSS
    clear hrb
    go_wp2_with fail
    go_ret
    refine ⟨by rw [HSE.out]; rfl, by rw [HSM.out]; exact HD0.out.keeps hn2 (fun h => h) (fun h => h), by rw [HSS.out]; exact HS0.out.keeps hn2 (fun h => h) (fun _ _ h => h), hn2.of_no⟩
  | true =>
    rw [hrb, Bool.true_and] at HSE HSM HSS
    clear hrb
    by_cases hds : 32768 < sd.size
    · rw [decide_eq_false (by omega), if_neg (by decide)] at HSE HSM HSS
      go_wp2_with fail
      go_ret
      refine ⟨by rw [HSE.out]; rfl, by rw [HSM.out]; exact HD0.out.keeps hn2 (fun h => h) (fun h => h), by rw [HSS.out]; exact HS0.out.keeps hn2 (fun h => h) (fun _ _ h => h), hn2.of_no⟩
    · rw [decide_eq_true (by omega), if_pos rfl] at HSE HSM HSS
      go_upto_region 5 with fail
      go_cut [5] (fun v5 wx => Strs wx w.heap.size v5 [textOf (Rc.hard ⟨ht, hv⟩), textOf (Rc.snap ⟨si, st, sc, sd⟩)] ∧ Blk wx w.heap.size #[.int .u64 ht, .int .i64 hv, .int .u64 si, .int .u64 st, .int .u64 sc, .string sd, .slice ao es.length cap] 42 ∧ Only NoBlock w wx)
      case first =>
        have hXd := hX2.drew
        go_region_held3 (fun w' => w'.cell? ⟨w.heap.size, 0, none⟩ = some (.int .u64 ht) ∧ w'.cell? ⟨w.heap.size, 1, none⟩ = some (.int .i64 hv) ∧ w'.cell? ⟨w.heap.size, 2, none⟩ = some (.int .u64 si) ∧ w'.cell? ⟨w.heap.size, 3, none⟩ = some (.int .u64 st) ∧ w'.cell? ⟨w.heap.size, 4, none⟩ = some (.int .u64 sc) ∧ w'.cell? ⟨w.heap.size, 5, none⟩ = some (.string sd))
          (first | with_reducible exact ⟨x0, x1, x2, x3, x4, x5⟩ | exact ⟨by rw [hXA.cell]; rfl, by rw [hXA.cell]; rfl, by rw [hXA.cell]; rfl, by rw [hXA.cell]; rfl, by rw [hXA.cell]; rfl, by rw [hXA.cell]; rfl⟩ | exact ⟨by rw [hXB.cell]; rfl, by rw [hXB.cell]; rfl, by rw [hXB.cell]; rfl, by rw [hXB.cell]; rfl, by rw [hXB.cell]; rfl, by rw [hXB.cell]; rfl⟩ | go_keep)
          (first
            | (go_at_call 45; refine (hardrec_at _ ht hv hh1 (wf_both hh2).1 (wf_both hh2).2).mono ?_; rintro e wA ⟨rfl, hOA⟩; have hXA := by first | exact hXd.keeps hOA (fun h => h) | exact hXB.keeps hOA (fun h => h))
            | (go_at_call 51; refine (snaprec_at _ si st sc sd hs1 hs2 hs3 (by omega)).mono ?_; rintro e wB ⟨rfl, hOB⟩; have hXB := by first | exact hXd.keeps hOB (fun h => h) | exact hXA.keeps hOB (fun h => h)))
        · have hO3 := ((hn2.drew).trans hOA).trans hOB
          have hz3 := hO3.size
          have hA3 := (Only.refl NoBlock wB).alloc (Obj.cells #[.string (textOf (Rc.hard ⟨ht, hv⟩)), .string (textOf (Rc.snap ⟨si, st, sc, sd⟩))] 9)
          go_wp2_with fail
          go_meet
          exact ⟨strs_two8 wB w.heap.size _ _ (by omega), hXB.keeps hA3 (fun h => h), hO3.trans hA3⟩
      case rest =>
        obtain ⟨hR5, hX5, hn5⟩ := hcut
        clear x0 x1 x2 x3 x4 x5 x6 hX2 hn2
        rename_i v5 wc
        have q6 : wc.cell? ⟨w.heap.size, 6, none⟩ = some (.slice ao es.length cap) := by rw [hX5.cell]; rfl
        go_wp2_with fail
        go_loopw [5, 31] (fun u5 u31 wr => ∃ k : Nat, k ≤ es.length ∧ u31 = .int .i64 k ∧ Strs wr w.heap.size u5 ([textOf (Rc.hard ⟨ht, hv⟩), textOf (Rc.snap ⟨si, st, sc, sd⟩)] ++ (es.take k).map Sto.entB) ∧ Blk wr w.heap.size #[.int .u64 ht, .int .i64 hv, .int .u64 si, .int .u64 st, .int .u64 sc, .string sd, .slice ao es.length cap] 42 ∧ Only NoBlock w wr) (fun _ u31 _ => es.length - (intOf u31).toNat)
        case atStart => exact ⟨0, by omega, rfl, by simpa using hR5, hX5, hn5⟩
        case round =>
          clear hR5 hX5 hn5 q6
          obtain ⟨k, hk, rfl, hR, hX6, hn6⟩ := hrel
          by_cases hlt : k < es.length
          · obtain ⟨bb, off, rfl, e0, e1, e2, e3⟩ := (hl.keeps hn6 (fun _ _ h => h)).cell k hlt
            have hwf := hl.at_wf hlt
            have hdk : (es.getD k Ent.zero).data.size ≤ 1000000000 := by
              rw [List.getD_eq_getElem?_getD, List.getElem?_eq_getElem hlt]
              exact hdat _ (List.getElem_mem hlt)
            have hts : (es.take (k + 1)).map Sto.entB = (es.take k).map Sto.entB ++ [Sto.entB (es.getD k Ent.zero)] := by
              rw [List.take_add_one, List.getElem?_eq_getElem hlt, List.getD_eq_getElem?_getD, List.getElem?_eq_getElem hlt, List.map_append]; rfl
            have HTS := Lib.hid hts
            have hlk : ([textOf (Rc.hard ⟨ht, hv⟩), textOf (Rc.snap ⟨si, st, sc, sd⟩)] ++ (es.take k).map Sto.entB).length ≤ 2 + k := by simp; omega
            clear hts
            generalize es.getD k Ent.zero = en at e0 e1 e2 e3 hwf hdk HTS
            obtain ⟨et, ei, ek, ed⟩ := en
            obtain ⟨hw1, hw2, hw3, hw4⟩ := hwf
            simp only at e0 e1 e2 e3 hw1 hw2 hw3 hw4 hdk
            have hz6 := hn6.size
            go_wp2_with fail
            have hAe := (Only.refl NoBlock wr).alloc (Obj.cells #[.int .u64 et, .int .u64 ei, .int .i64 ek, .string ed] 77)
            generalize wr.alloc (Obj.cells #[.int .u64 et, .int .u64 ei, .int .i64 ek, .string ed] 77) = wE at hAe ⊢
            refine (entryrec_at wE et ei ek ed hw1 hw2 (by omega)).mono ?_
            rintro e w7 ⟨rfl, hO7⟩
            have hO67 := hAe.trans hO7
            have hX7 := hX6.keeps hO67 (fun h => h)
            have hn7 := hn6.trans hO67
            have hR7 := hR.keeps hO67 (fun _ _ h => h)
            have hz7 := hn7.size
            have hA7 := (Only.refl NoBlock w7).alloc (Obj.cells #[.string (textOf (Rc.entry ⟨et, ei, ek, ed⟩))] 9)
            have hRX := hR7.apart hX7 (by decide)
            clear hR hX6 hn6 hO7 hAe hz6 e0 e1 e2 e3
            go_wp2_with (first
              | (at_builtin; refine wpList_append_str _ rfl _ _ rfl w.heap.size _ ([textOf (Rc.hard ⟨ht, hv⟩), textOf (Rc.snap ⟨si, st, sc, sd⟩)] ++ (es.take k).map Sto.entB) (textOf (Rc.entry ⟨et, ei, ek, ed⟩)) ⟨w7.heap.size, 0, none⟩ 1 rfl (hR7.keeps hA7 (fun _ _ h => h)) rfl (cell_str _ _ _ _ rfl) (by omega) (by simp; omega) ?_; intro v8 w8 hs8 hg8))
            go_roundw
            case rel =>
              refine ⟨k + 1, by omega, by go_num, ?_, (hX7.keeps hA7 (fun h => h)).keeps (Only.of_grown hg8) (fun e => hRX e), (hn7.trans hA7).grown hg8 (fun k hk hl => absurd (World.ownsRow.lt hR7 k hk).1 (by omega))⟩
              rw [HTS.out, ← List.append_assoc]
              exact hs8
            case measure => simp [intOf]; omega
          · obtain rfl : k = es.length := by omega
            rw [List.take_length, ← HR.out] at hR
            generalize Sto.anewR ⟨⟨ht, hv⟩, ⟨si, st, sc, sd⟩, es⟩ = Z at HSE HSM HSS hR hsz
            obtain ⟨az, cz, rfl⟩ := hR.shape
            have hzi := hR.read.1
            have hg7 : LogAt wr g d n := Blk.keeps HG0.out hn6 (fun h => h)
            have hd7 := HD0.out.keeps hn6 (fun h => h) (fun h => h)
            obtain ⟨vS, hBt, hEt⟩ := HS0.out.ex
            have hBt7 := hBt.keeps hn6 (fun h => h)
            have k0 : wr.cell? ⟨t, 0, none⟩ = some (.pointer (some ⟨g, 0, none⟩)) := by rw [hBt7.cell]; rfl
            go_wp2_with fail
            refine (log_anew_at wr g d mb M n az cz Z hd7 hg7 hw hzi hsz).mono ?_
            rintro e w8 ⟨rfl, hd8, hO8⟩
            have hdl := HD0.out.blk.lt
            have hml := HD0.out.files.lt
            have hn8 : Only (fun k => k = d ∨ k = mb) w w8 := hn6.of_no.trans hO8
            have hX8 := hX6.keeps hO8 (fun e => by omega)
            have hBt8 := hBt7.keeps hO8 (fun e => e.elim htd.1 htd.2)
            have hl8 := hlb _ _ (hl.keeps hn6 (fun _ _ h => h)) hO8
            by_cases hap : Wal.anewE M n Z = 0
            · rw [if_pos hap] at HSS
              rw [hap] at HSE ⊢
              clear hap hg7 hd7 hBt7 k0 hR hX6 hn6 hO8 hBt hEt
              have q0 : w8.cell? ⟨w.heap.size, 0, none⟩ = some (.int .u64 ht) := by rw [hX8.cell]; rfl
              have q1 : w8.cell? ⟨w.heap.size, 1, none⟩ = some (.int .i64 hv) := by rw [hX8.cell]; rfl
              have q2 : w8.cell? ⟨w.heap.size, 2, none⟩ = some (.int .u64 si) := by rw [hX8.cell]; rfl
              have q3 : w8.cell? ⟨w.heap.size, 3, none⟩ = some (.int .u64 st) := by rw [hX8.cell]; rfl
              have q4 : w8.cell? ⟨w.heap.size, 4, none⟩ = some (.int .u64 sc) := by rw [hX8.cell]; rfl
              have q5 : w8.cell? ⟨w.heap.size, 5, none⟩ = some (.string sd) := by rw [hX8.cell]; rfl
              have q6 : w8.cell? ⟨w.heap.size, 6, none⟩ = some (.slice ao es.length cap) := by rw [hX8.cell]; rfl
              go_wp2_with fail
              refine (copied_as w8 ht hv si st sc sd ao cap es hl8 (by omega)).mono ?_
              rintro e w9 ⟨v9, rfl, hE9, hO9⟩
              obtain ⟨ao9, cap9, rfl⟩ := hE9.shape
              have hz8 := hn8.size
              have hBt9 := hBt8.keeps hO9 (fun h => h)
              have hd9 := hd8.keeps hO9 (fun h => h) (fun h => h)
              have hn9 := hn8.andThen hO9 (fun _ _ h => h.elim)
              clear q0 q1 q2 q3 q4 q5 q6 hX8 hO9 hl8 hd8 hn8 hBt8
              have k1 : w9.cell? ⟨t, 1, none⟩ = some (.int .u64 old.hard.term) := by rw [hBt9.cell]; rfl
              have f1 := hBt9.free 1
              have k2 : w9.cell? ⟨t, 2, none⟩ = some (.int .i64 old.hard.vote) := by rw [hBt9.cell]; rfl
              have f2 := hBt9.free 2
              have k3 : w9.cell? ⟨t, 3, none⟩ = some (.int .u64 old.snap.index) := by rw [hBt9.cell]; rfl
              have f3 := hBt9.free 3
              have k4 : w9.cell? ⟨t, 4, none⟩ = some (.int .u64 old.snap.term) := by rw [hBt9.cell]; rfl
              have f4 := hBt9.free 4
              have k5 : w9.cell? ⟨t, 5, none⟩ = some (.int .u64 old.snap.config) := by rw [hBt9.cell]; rfl
              have f5 := hBt9.free 5
              have k6 : w9.cell? ⟨t, 6, none⟩ = some (.string old.snap.data) := by rw [hBt9.cell]; rfl
              have f6 := hBt9.free 6
              have k7 : w9.cell? ⟨t, 7, none⟩ = some vS := by rw [hBt9.cell]; rfl
              have f7 := hBt9.free 7
              go_wp2_with fail
              have hz : Only (fun k => k = t) w9 ((((((((w9.setCell ⟨t, 1, none⟩ (.int .u64 ht)).setCell ⟨t, 2, none⟩ (.int .i64 hv)).setCell ⟨t, 3, none⟩ (.int .u64 si)).setCell ⟨t, 4, none⟩ (.int .u64 st)).setCell ⟨t, 5, none⟩ (.int .u64 sc)).setCell ⟨t, 6, none⟩ (.string sd)).setCell ⟨t, 7, none⟩ (.slice ao9 es.length cap9))) := ((((((((Only.refl (fun k => k = t) w9).setCell (p := ⟨t, 1, none⟩) (fun _ => rfl) (.int .u64 ht)).setCell (p := ⟨t, 2, none⟩) (fun _ => rfl) (.int .i64 hv)).setCell (p := ⟨t, 3, none⟩) (fun _ => rfl) (.int .u64 si)).setCell (p := ⟨t, 4, none⟩) (fun _ => rfl) (.int .u64 st)).setCell (p := ⟨t, 5, none⟩) (fun _ => rfl) (.int .u64 sc)).setCell (p := ⟨t, 6, none⟩) (fun _ => rfl) (.string sd)).setCell (p := ⟨t, 7, none⟩) (fun _ => rfl) (.slice ao9 es.length cap9))
              have hBz : Blk ((((((((w9.setCell ⟨t, 1, none⟩ (.int .u64 ht)).setCell ⟨t, 2, none⟩ (.int .i64 hv)).setCell ⟨t, 3, none⟩ (.int .u64 si)).setCell ⟨t, 4, none⟩ (.int .u64 st)).setCell ⟨t, 5, none⟩ (.int .u64 sc)).setCell ⟨t, 6, none⟩ (.string sd)).setCell ⟨t, 7, none⟩ (.slice ao9 es.length cap9))) t #[.pointer (some ⟨g, 0, none⟩), .int .u64 ht, .int .i64 hv, .int .u64 si, .int .u64 st, .int .u64 sc, .string sd, .slice ao9 es.length cap9] 100 := (((((((hBt9.setCell 1 (.int .u64 ht)).setCell 2 (.int .i64 hv)).setCell 3 (.int .u64 si)).setCell 4 (.int .u64 st)).setCell 5 (.int .u64 sc)).setCell 6 (.string sd)).setCell 7 (.slice ao9 es.length cap9))
              have hEz := hE9.keeps hz (fun k hk e => by have := (World.ownsRow.lt hE9.1 k hk).1; have e' : k = t := e; omega)
              have hDz := hd9.keeps hz (fun e => htd.1 e.symm) (fun e => htd.2 e.symm)
              go_ret
              exact ⟨by rw [HSE.out]; rfl, by rw [HSM.out]; exact hDz, by rw [HSS.out]; exact ⟨HH.out, HSW.out, _, hBz, hEz.lower (by omega)⟩, (hn9.mono (fun k e => e.elim .inl (fun e => .inr (.inl e)))).andThen hz (fun k _ e => .inr (.inr e))⟩
            · rw [if_neg hap] at HSS
              have hab : (Wal.anewE M n Z != 0) = true := by simpa using hap
              have HAP := Lib.hid hap
              clear hap
              go_wp2_with fail
              go_ret
              exact ⟨by rw [HSE.out]; rfl, by rw [HSM.out]; exact hd8, by rw [HSS.out]; exact (HS0.out.keeps hn6 (fun h => h) (fun _ _ h => h)).keepsD hd7 hO8, hn8.mono (fun k e => e.elim .inl (fun e => .inr (.inl e)))⟩
end Go.Proofs.Ytekmjhenhgmpgaa
