/- What a store tells as its state. -/
import Derived.Test.YtekmjhenhgmpgaaTake
import Derived.Test.YtekmjhenhgmpgaaLog
namespace Go.Proofs.Ytekmjhenhgmpgaa
open Go.RowKit
set_option maxRecDepth 100000

/-- block t is a store: a log, a state, a row of the call's own -/
structure StoreAt (w : World) (base t g : Nat) (s : St) : Prop where
  hard : s.hard.Wf
  snap : s.snap.Wf
  ex : ∃ v, Blk w t #[.pointer (some ⟨g, 0, none⟩), .int .u64 s.hard.term, .int .i64 s.hard.vote, .int .u64 s.snap.index, .int .u64 s.snap.term, .int .u64 s.snap.config, .string s.snap.data, v] 100 ∧ Ents w base v s.es
/-- a state as a value, with a row of the call's own -/
def StVal (w : World) (base : Nat) (s : St) (x : Value) : Prop := ∃ v, x = .agg (stCells s.hard s.snap v) ∧ Ents w base v s.es

set_option maxHeartbeats 1600000 in
theorem state_at (w : World) (base t g : Nat) (s : St) (h : StoreAt w base t g s) (hll : s.es.length ≤ 1000000000000) :
    Calls Try.prog 17 #[.pointer (some ⟨t, 0, none⟩)] w fun e w' => ∃ x, e = .returned x ∧ StVal w' w.heap.size s x ∧ Only NoBlock w w' := by
  obtain ⟨⟨ht, hv⟩, ⟨si, st, sc, sd⟩, es⟩ := s
  obtain ⟨hh, hs, v, hB, hE⟩ := h
  simp only at hh hs hB hE hll
  obtain ⟨ao, cap, rfl⟩ := hE.shape
  have hr := Blk.made w #[.int .u64 0, .int .i64 0, .int .u64 0, .int .u64 0, .int .u64 0, .string { data := #[] }, .slice none 0 0] 42
  have hn := (Only.refl NoBlock w).alloc (Obj.cells #[.int .u64 0, .int .i64 0, .int .u64 0, .int .u64 0, .int .u64 0, .string { data := #[] }, .slice none 0 0] 42)
  have hB1 := hB.alloc (Obj.cells #[.int .u64 0, .int .i64 0, .int .u64 0, .int .u64 0, .int .u64 0, .string { data := #[] }, .slice none 0 0] 42)
  have hE1 : Ents (w.alloc (Obj.cells #[.int .u64 0, .int .i64 0, .int .u64 0, .int .u64 0, .int .u64 0, .string { data := #[] }, .slice none 0 0] 42)) base (.slice ao es.length cap) es := hE.keeps ((Only.refl NoBlock w).alloc (Obj.cells #[.int .u64 0, .int .i64 0, .int .u64 0, .int .u64 0, .int .u64 0, .string { data := #[] }, .slice none 0 0] 42)) (fun _ _ h => h)
  have hz := hn.size
  have hz2 : w.heap.size < (w.alloc (Obj.cells #[.int .u64 0, .int .i64 0, .int .u64 0, .int .u64 0, .int .u64 0, .string { data := #[] }, .slice none 0 0] 42)).heap.size := by simp
  go_enter Try.func17, Try.ntmps17
  go_upto_region 1 with fail
  generalize w.alloc (Obj.cells #[.int .u64 0, .int .i64 0, .int .u64 0, .int .u64 0, .int .u64 0, .string { data := #[] }, .slice none 0 0] 42) = w1 at hr hn hB1 hE1 hz hz2 ⊢
  obtain ⟨hin, hcl, hcm⟩ := hE1.read (by omega)
  have c0 : w1.cell? ⟨t, 0, none⟩ = some (.pointer (some ⟨g, 0, none⟩)) := by rw [hB1.cell]; rfl
  have c1 : w1.cell? ⟨t, 1, none⟩ = some (.int .u64 ht) := by rw [hB1.cell]; rfl
  have c2 : w1.cell? ⟨t, 2, none⟩ = some (.int .i64 hv) := by rw [hB1.cell]; rfl
  have c3 : w1.cell? ⟨t, 3, none⟩ = some (.int .u64 si) := by rw [hB1.cell]; rfl
  have c4 : w1.cell? ⟨t, 4, none⟩ = some (.int .u64 st) := by rw [hB1.cell]; rfl
  have c5 : w1.cell? ⟨t, 5, none⟩ = some (.int .u64 sc) := by rw [hB1.cell]; rfl
  have c6 : w1.cell? ⟨t, 6, none⟩ = some (.string sd) := by rw [hB1.cell]; rfl
  have c7 : w1.cell? ⟨t, 7, none⟩ = some (.slice ao es.length cap) := by rw [hB1.cell]; rfl
  go_wp2_with fail
  refine (copied_at w1 ⟨ht, hv⟩ ⟨si, st, sc, sd⟩ ao cap es hin hll).mono ?_
  rintro e w2 ⟨v2, rfl, hE2, hO2⟩
  have hr2 := hr.keeps hO2 (fun h => h)
  have hn2 := hn.trans hO2
  obtain ⟨ao2, cap2, rfl⟩ := hE2.shape
  have hnr : (Value.slice ao2 es.length cap2).ownBlock ≠ some w.heap.size := fun hk => by have := (World.ownsRow.lt hE2.1 _ hk).1; omega
  clear hB hE hB1 hE1 hr hn hz hin hcl hcm c0 c1 c2 c3 c4 c5 c6 c7
  have q0 : w2.cell? ⟨w.heap.size, 0, none⟩ = some (.int .u64 0) := by rw [hr2.cell]; rfl
  have f0 := hr2.free 0
  have q1 : w2.cell? ⟨w.heap.size, 1, none⟩ = some (.int .i64 0) := by rw [hr2.cell]; rfl
  have f1 := hr2.free 1
  have q2 : w2.cell? ⟨w.heap.size, 2, none⟩ = some (.int .u64 0) := by rw [hr2.cell]; rfl
  have f2 := hr2.free 2
  have q3 : w2.cell? ⟨w.heap.size, 3, none⟩ = some (.int .u64 0) := by rw [hr2.cell]; rfl
  have f3 := hr2.free 3
  have q4 : w2.cell? ⟨w.heap.size, 4, none⟩ = some (.int .u64 0) := by rw [hr2.cell]; rfl
  have f4 := hr2.free 4
  have q5 : w2.cell? ⟨w.heap.size, 5, none⟩ = some (.string { data := #[] }) := by rw [hr2.cell]; rfl
  have f5 := hr2.free 5
  have q6 : w2.cell? ⟨w.heap.size, 6, none⟩ = some (.slice none 0 0) := by rw [hr2.cell]; rfl
  have f6 := hr2.free 6
  go_wp2_with fail
  have hr3 : Blk (((((((w2.setCell ⟨w.heap.size, 0, none⟩ (.int .u64 ht)).setCell ⟨w.heap.size, 1, none⟩ (.int .i64 hv)).setCell ⟨w.heap.size, 2, none⟩ (.int .u64 si)).setCell ⟨w.heap.size, 3, none⟩ (.int .u64 st)).setCell ⟨w.heap.size, 4, none⟩ (.int .u64 sc)).setCell ⟨w.heap.size, 5, none⟩ (.string sd)).setCell ⟨w.heap.size, 6, none⟩ (.slice ao2 es.length cap2)) w.heap.size #[.int .u64 ht, .int .i64 hv, .int .u64 si, .int .u64 st, .int .u64 sc, .string sd, .slice ao2 es.length cap2] 42 := (((((((hr2.setCell 0 (.int .u64 ht)).setCell 1 (.int .i64 hv)).setCell 2 (.int .u64 si)).setCell 3 (.int .u64 st)).setCell 4 (.int .u64 sc)).setCell 5 (.string sd)).setCell 6 (.slice ao2 es.length cap2))
  have hn3 : Only NoBlock w (((((((w2.setCell ⟨w.heap.size, 0, none⟩ (.int .u64 ht)).setCell ⟨w.heap.size, 1, none⟩ (.int .i64 hv)).setCell ⟨w.heap.size, 2, none⟩ (.int .u64 si)).setCell ⟨w.heap.size, 3, none⟩ (.int .u64 st)).setCell ⟨w.heap.size, 4, none⟩ (.int .u64 sc)).setCell ⟨w.heap.size, 5, none⟩ (.string sd)).setCell ⟨w.heap.size, 6, none⟩ (.slice ao2 es.length cap2)) := (((((((hn2.setCell (p := ⟨w.heap.size, 0, none⟩) (fun h => absurd h (by simp)) (.int .u64 ht)).setCell (p := ⟨w.heap.size, 1, none⟩) (fun h => absurd h (by simp)) (.int .i64 hv)).setCell (p := ⟨w.heap.size, 2, none⟩) (fun h => absurd h (by simp)) (.int .u64 si)).setCell (p := ⟨w.heap.size, 3, none⟩) (fun h => absurd h (by simp)) (.int .u64 st)).setCell (p := ⟨w.heap.size, 4, none⟩) (fun h => absurd h (by simp)) (.int .u64 sc)).setCell (p := ⟨w.heap.size, 5, none⟩) (fun h => absurd h (by simp)) (.string sd)).setCell (p := ⟨w.heap.size, 6, none⟩) (fun h => absurd h (by simp)) (.slice ao2 es.length cap2))
  have hE3 : Ents (((((((w2.setCell ⟨w.heap.size, 0, none⟩ (.int .u64 ht)).setCell ⟨w.heap.size, 1, none⟩ (.int .i64 hv)).setCell ⟨w.heap.size, 2, none⟩ (.int .u64 si)).setCell ⟨w.heap.size, 3, none⟩ (.int .u64 st)).setCell ⟨w.heap.size, 4, none⟩ (.int .u64 sc)).setCell ⟨w.heap.size, 5, none⟩ (.string sd)).setCell ⟨w.heap.size, 6, none⟩ (.slice ao2 es.length cap2)) w1.heap.size (.slice ao2 es.length cap2) es := Ents.keeps (S := fun k => k = w.heap.size) hE2 ((((((((Only.refl (fun k => k = w.heap.size) w2).setCell (p := ⟨w.heap.size, 0, none⟩) (fun _ => rfl) (.int .u64 ht)).setCell (p := ⟨w.heap.size, 1, none⟩) (fun _ => rfl) (.int .i64 hv)).setCell (p := ⟨w.heap.size, 2, none⟩) (fun _ => rfl) (.int .u64 si)).setCell (p := ⟨w.heap.size, 3, none⟩) (fun _ => rfl) (.int .u64 st)).setCell (p := ⟨w.heap.size, 4, none⟩) (fun _ => rfl) (.int .u64 sc)).setCell (p := ⟨w.heap.size, 5, none⟩) (fun _ => rfl) (.string sd)).setCell (p := ⟨w.heap.size, 6, none⟩) (fun _ => rfl) (.slice ao2 es.length cap2)) (fun k hk e => hnr (by rw [hk, e]))
  generalize (((((((w2.setCell ⟨w.heap.size, 0, none⟩ (.int .u64 ht)).setCell ⟨w.heap.size, 1, none⟩ (.int .i64 hv)).setCell ⟨w.heap.size, 2, none⟩ (.int .u64 si)).setCell ⟨w.heap.size, 3, none⟩ (.int .u64 st)).setCell ⟨w.heap.size, 4, none⟩ (.int .u64 sc)).setCell ⟨w.heap.size, 5, none⟩ (.string sd)).setCell ⟨w.heap.size, 6, none⟩ (.slice ao2 es.length cap2)) = w3 at hr3 hn3 hE3 ⊢
  obtain ⟨fs, hfs⟩ := Sto.u_state
  (try simp only [Exit.inBlock, Exit.then])
  refine bodyPost_ret (results_cell_row (P := Try.prog) rfl _ _ w.heap.size _ _ _ _ rfl hr3 hfs rfl Sto.size_state) rfl ?_
  exact ⟨_, rfl, ⟨_, rfl, hE3.lower (by omega)⟩, hn3⟩
end Go.Proofs.Ytekmjhenhgmpgaa
