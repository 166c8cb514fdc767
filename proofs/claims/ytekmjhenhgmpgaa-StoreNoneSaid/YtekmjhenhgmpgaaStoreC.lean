/- A copy of the store's state: nothing shared. -/
import Derived.Test.YtekmjhenhgmpgaaStoreP
import Derived.Test.YtekmjhenhgmpgaaEntsApp
import Derived.Laws.Rows
namespace Go.Proofs.Ytekmjhenhgmpgaa
open Go.RowKit
set_option maxRecDepth 100000

namespace Sto
theorem u_state : ∃ fs, Try.prog.underlying 42 = some (.struct fs) := ⟨_, rfl⟩
theorem size_state : (Try.prog.info? 42).map (·.size) = some 7 := by kernel_rfl
end Sto

set_option maxHeartbeats 1600000 in
theorem copied_at (w : World) (h : Hrd) (s : Snp) (ao : Option Addr) (cap : Nat) (l : List Ent) (hl : EntsIn w ao l) (hll : l.length ≤ 1000000000000) :
    Calls Try.prog 40 #[.agg #[.int .u64 h.term, .int .i64 h.vote, .int .u64 s.index, .int .u64 s.term, .int .u64 s.config, .string s.data, .slice ao l.length cap]] w fun e w' =>
      ∃ v, e = .returned (.agg #[.int .u64 h.term, .int .i64 h.vote, .int .u64 s.index, .int .u64 s.term, .int .u64 s.config, .string s.data, v]) ∧ Ents w' w.heap.size v l ∧ Only NoBlock w w' := by
  obtain ⟨ht, hv⟩ := h
  obtain ⟨si, st, sc, sd⟩ := s
  simp only
  have hbx := Blk.made w #[.int .u64 ht, .int .i64 hv, .int .u64 si, .int .u64 st, .int .u64 sc, .string sd, .slice ao l.length cap] 42
  have hn := (Only.refl NoBlock w).alloc (Obj.cells #[.int .u64 ht, .int .i64 hv, .int .u64 si, .int .u64 st, .int .u64 sc, .string sd, .slice ao l.length cap] 42)
  have hz1 : (w.alloc (Obj.cells #[.int .u64 ht, .int .i64 hv, .int .u64 si, .int .u64 st, .int .u64 sc, .string sd, .slice ao l.length cap] 42)).heap.size = w.heap.size + 1 := by simp
  go_enter Try.func40, Try.ntmps40
  go_upto_region 1 with fail
  generalize w.alloc (Obj.cells #[.int .u64 ht, .int .i64 hv, .int .u64 si, .int .u64 st, .int .u64 sc, .string sd, .slice ao l.length cap] 42) = w1 at hbx hn hz1 ⊢
  have hl1 := hl.keeps hn (fun _ _ h => h)
  have hr2 := Blk.made w1 #[.int .u64 0, .int .i64 0, .int .u64 0, .int .u64 0, .int .u64 0, .string { data := #[] }, .slice none 0 0] 42
  rw [hz1] at hr2
  have hb2 := hbx.alloc (Obj.cells #[.int .u64 0, .int .i64 0, .int .u64 0, .int .u64 0, .int .u64 0, .string { data := #[] }, .slice none 0 0] 42)
  have hn2 := hn.alloc (Obj.cells #[.int .u64 0, .int .i64 0, .int .u64 0, .int .u64 0, .int .u64 0, .string { data := #[] }, .slice none 0 0] 42)
  have hl2 := hl1.keeps ((Only.refl NoBlock w1).alloc (Obj.cells #[.int .u64 0, .int .i64 0, .int .u64 0, .int .u64 0, .int .u64 0, .string { data := #[] }, .slice none 0 0] 42)) (fun _ _ h => h)
  have hz2 : (w1.alloc (Obj.cells #[.int .u64 0, .int .i64 0, .int .u64 0, .int .u64 0, .int .u64 0, .string { data := #[] }, .slice none 0 0] 42)).heap.size = w.heap.size + 2 := by simp [hz1]
  generalize w1.alloc (Obj.cells #[.int .u64 0, .int .i64 0, .int .u64 0, .int .u64 0, .int .u64 0, .string { data := #[] }, .slice none 0 0] 42) = w2 at hr2 hb2 hn2 hl2 hz2 ⊢
  clear hbx hn hl1 hl hz1
  have b6 : w2.cell? ⟨w.heap.size, 6, none⟩ = some (.slice ao l.length cap) := by rw [hb2.cell]; rfl
  go_upto_region 2 with (at_builtin; refine wpList_append_ents _ rfl _ _ rfl w.heap.size (.slice none 0 0) [] l _ _ _ rfl (Ents.nil _ _) rfl rfl hl2 ?_ ?_ ?_; (simp; omega); omega; intro v3 w3 he3 hg3x _; have hg3 : w2.grownBy w3 none := hg3x; clear hg3x; have hp3 : Blk w3 w.heap.size _ _ := (hg3.block w.heap.size (by omega) (by simp)).trans hb2; have hq3 : Blk w3 (w.heap.size + 1) _ _ := (hg3.block (w.heap.size + 1) (by omega) (by simp)).trans hr2; have c3 := hp3.cell 6; have f3 := hp3.free 6; simp only [List.getElem?_toArray, List.getElem?_cons_succ, List.getElem?_cons_zero] at c3; rw [List.nil_append] at he3; obtain ⟨ao3, cap3, rfl⟩ := he3.shape)
  have hz3 := hg3.size
  have hnb : (Value.slice ao3 l.length cap3).ownBlock ≠ some w.heap.size := he3.apart hp3 (by decide)
  have hnr : (Value.slice ao3 l.length cap3).ownBlock ≠ some (w.heap.size + 1) := he3.apart hq3 (by decide)
  have he4 := Ents.keeps (S := fun k => k = w.heap.size) he3 ((Only.refl (fun k => k = w.heap.size) w3).setCell (p := ⟨w.heap.size, 6, none⟩) (fun _ => rfl) (.slice ao3 l.length cap3)) (fun k hk e => hnb (by rw [hk, e]))
  have hp4 := hp3.setCell 6 (.slice ao3 l.length cap3)
  have hq4 : Blk (w3.setCell ⟨w.heap.size, 6, none⟩ (.slice ao3 l.length cap3)) (w.heap.size + 1) _ _ := hq3.keeps ((Only.refl (fun k => k = w.heap.size) w3).setCell (p := ⟨w.heap.size, 6, none⟩) (fun _ => rfl) (.slice ao3 l.length cap3)) (by omega)
  have hn4 : Only NoBlock w (w3.setCell ⟨w.heap.size, 6, none⟩ (.slice ao3 l.length cap3)) := (hn2.grown hg3 (fun k hk => by cases hk)).setCell (p := ⟨w.heap.size, 6, none⟩) (fun h => absurd h (by simp)) _
  generalize w3.setCell ⟨w.heap.size, 6, none⟩ (.slice ao3 l.length cap3) = w4 at he4 hp4 hq4 hn4 ⊢
  clear hp3 hq3 c3 f3 he3 hg3 b6 hr2 hb2 hl2 hz2 hn2 hz3
  have hp5 : Blk w4 w.heap.size #[.int .u64 ht, .int .i64 hv, .int .u64 si, .int .u64 st, .int .u64 sc, .string sd, .slice ao3 l.length cap3] 42 := hp4
  have a0 : w4.cell? ⟨w.heap.size, 0, none⟩ = some (.int .u64 ht) := by rw [hp5.cell]; rfl
  have a1 : w4.cell? ⟨w.heap.size, 1, none⟩ = some (.int .i64 hv) := by rw [hp5.cell]; rfl
  have a2 : w4.cell? ⟨w.heap.size, 2, none⟩ = some (.int .u64 si) := by rw [hp5.cell]; rfl
  have a3 : w4.cell? ⟨w.heap.size, 3, none⟩ = some (.int .u64 st) := by rw [hp5.cell]; rfl
  have a4 : w4.cell? ⟨w.heap.size, 4, none⟩ = some (.int .u64 sc) := by rw [hp5.cell]; rfl
  have a5 : w4.cell? ⟨w.heap.size, 5, none⟩ = some (.string sd) := by rw [hp5.cell]; rfl
  have a6 : w4.cell? ⟨w.heap.size, 6, none⟩ = some (.slice ao3 l.length cap3) := by rw [hp5.cell]; rfl
  have q0 : w4.cell? ⟨w.heap.size + 1, 0, none⟩ = some (.int .u64 0) := by rw [hq4.cell]; rfl
  have q1 : w4.cell? ⟨w.heap.size + 1, 1, none⟩ = some (.int .i64 0) := by rw [hq4.cell]; rfl
  have q2 : w4.cell? ⟨w.heap.size + 1, 2, none⟩ = some (.int .u64 0) := by rw [hq4.cell]; rfl
  have q3 : w4.cell? ⟨w.heap.size + 1, 3, none⟩ = some (.int .u64 0) := by rw [hq4.cell]; rfl
  have q4 : w4.cell? ⟨w.heap.size + 1, 4, none⟩ = some (.int .u64 0) := by rw [hq4.cell]; rfl
  have q5 : w4.cell? ⟨w.heap.size + 1, 5, none⟩ = some (.string { data := #[] }) := by rw [hq4.cell]; rfl
  have q6 : w4.cell? ⟨w.heap.size + 1, 6, none⟩ = some (.slice none 0 0) := by rw [hq4.cell]; rfl
  have f0 := hq4.free 0
  have f1 := hq4.free 1
  have f2 := hq4.free 2
  have f3 := hq4.free 3
  have f4 := hq4.free 4
  have f5 := hq4.free 5
  have f6 := hq4.free 6
  go_wp2_with fail
  have hq5 : Blk (((((((w4.setCell ⟨w.heap.size + 1, 0, none⟩ (.int .u64 ht)).setCell ⟨w.heap.size + 1, 1, none⟩ (.int .i64 hv)).setCell ⟨w.heap.size + 1, 2, none⟩ (.int .u64 si)).setCell ⟨w.heap.size + 1, 3, none⟩ (.int .u64 st)).setCell ⟨w.heap.size + 1, 4, none⟩ (.int .u64 sc)).setCell ⟨w.heap.size + 1, 5, none⟩ (.string sd)).setCell ⟨w.heap.size + 1, 6, none⟩ (.slice ao3 l.length cap3)) (w.heap.size + 1) #[.int .u64 ht, .int .i64 hv, .int .u64 si, .int .u64 st, .int .u64 sc, .string sd, .slice ao3 l.length cap3] 42 := (((((((hq4.setCell 0 (.int .u64 ht)).setCell 1 (.int .i64 hv)).setCell 2 (.int .u64 si)).setCell 3 (.int .u64 st)).setCell 4 (.int .u64 sc)).setCell 5 (.string sd)).setCell 6 (.slice ao3 l.length cap3))
  have hn5 : Only NoBlock w (((((((w4.setCell ⟨w.heap.size + 1, 0, none⟩ (.int .u64 ht)).setCell ⟨w.heap.size + 1, 1, none⟩ (.int .i64 hv)).setCell ⟨w.heap.size + 1, 2, none⟩ (.int .u64 si)).setCell ⟨w.heap.size + 1, 3, none⟩ (.int .u64 st)).setCell ⟨w.heap.size + 1, 4, none⟩ (.int .u64 sc)).setCell ⟨w.heap.size + 1, 5, none⟩ (.string sd)).setCell ⟨w.heap.size + 1, 6, none⟩ (.slice ao3 l.length cap3)) := (((((((hn4.setCell (p := ⟨w.heap.size + 1, 0, none⟩) (fun h => absurd h (by simp)) (.int .u64 ht)).setCell (p := ⟨w.heap.size + 1, 1, none⟩) (fun h => absurd h (by simp)) (.int .i64 hv)).setCell (p := ⟨w.heap.size + 1, 2, none⟩) (fun h => absurd h (by simp)) (.int .u64 si)).setCell (p := ⟨w.heap.size + 1, 3, none⟩) (fun h => absurd h (by simp)) (.int .u64 st)).setCell (p := ⟨w.heap.size + 1, 4, none⟩) (fun h => absurd h (by simp)) (.int .u64 sc)).setCell (p := ⟨w.heap.size + 1, 5, none⟩) (fun h => absurd h (by simp)) (.string sd)).setCell (p := ⟨w.heap.size + 1, 6, none⟩) (fun h => absurd h (by simp)) (.slice ao3 l.length cap3))
  have he5 : Ents (((((((w4.setCell ⟨w.heap.size + 1, 0, none⟩ (.int .u64 ht)).setCell ⟨w.heap.size + 1, 1, none⟩ (.int .i64 hv)).setCell ⟨w.heap.size + 1, 2, none⟩ (.int .u64 si)).setCell ⟨w.heap.size + 1, 3, none⟩ (.int .u64 st)).setCell ⟨w.heap.size + 1, 4, none⟩ (.int .u64 sc)).setCell ⟨w.heap.size + 1, 5, none⟩ (.string sd)).setCell ⟨w.heap.size + 1, 6, none⟩ (.slice ao3 l.length cap3)) w.heap.size (.slice ao3 l.length cap3) l := Ents.keeps (S := fun k => k = w.heap.size + 1) he4 ((((((((Only.refl (fun k => k = w.heap.size + 1) w4).setCell (p := ⟨w.heap.size + 1, 0, none⟩) (fun _ => rfl) (.int .u64 ht)).setCell (p := ⟨w.heap.size + 1, 1, none⟩) (fun _ => rfl) (.int .i64 hv)).setCell (p := ⟨w.heap.size + 1, 2, none⟩) (fun _ => rfl) (.int .u64 si)).setCell (p := ⟨w.heap.size + 1, 3, none⟩) (fun _ => rfl) (.int .u64 st)).setCell (p := ⟨w.heap.size + 1, 4, none⟩) (fun _ => rfl) (.int .u64 sc)).setCell (p := ⟨w.heap.size + 1, 5, none⟩) (fun _ => rfl) (.string sd)).setCell (p := ⟨w.heap.size + 1, 6, none⟩) (fun _ => rfl) (.slice ao3 l.length cap3)) (fun k hk e => hnr (by rw [hk, e]))
  generalize (((((((w4.setCell ⟨w.heap.size + 1, 0, none⟩ (.int .u64 ht)).setCell ⟨w.heap.size + 1, 1, none⟩ (.int .i64 hv)).setCell ⟨w.heap.size + 1, 2, none⟩ (.int .u64 si)).setCell ⟨w.heap.size + 1, 3, none⟩ (.int .u64 st)).setCell ⟨w.heap.size + 1, 4, none⟩ (.int .u64 sc)).setCell ⟨w.heap.size + 1, 5, none⟩ (.string sd)).setCell ⟨w.heap.size + 1, 6, none⟩ (.slice ao3 l.length cap3)) = w5 at hq5 hn5 he5 ⊢
  clear a0 a1 a2 a3 a4 a5 a6 q0 q1 q2 q3 q4 q5 q6 f0 f1 f2 f3 f4 f5 f6 hp4 hp5 hq4 hn4 he4
  obtain ⟨fs, hfs⟩ := Sto.u_state
  (try simp only [Exit.inBlock, Exit.then])
  refine bodyPost_ret (results_cell_row (P := Try.prog) rfl _ _ (w.heap.size + 1) _ _ _ _ rfl hq5 hfs rfl Sto.size_state) rfl ?_
  exact ⟨_, rfl, he5, hn5⟩
end Go.Proofs.Ytekmjhenhgmpgaa
