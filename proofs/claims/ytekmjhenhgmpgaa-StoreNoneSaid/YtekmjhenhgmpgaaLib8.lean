/- What the store's statements lean on: states compared, a store that is none. -/
import Derived.Test.YtekmjhenhgmpgaaSame8B
import Derived.Test.YtekmjhenhgmpgaaSave
namespace Go.Proofs.Ytekmjhenhgmpgaa
open Go.RowKit
set_option maxRecDepth 100000

set_option maxHeartbeats 1000000 in
theorem same8_raw (w : World) (at_ bt ai bi aj bj ac bc : Nat) (av bv : Int) (ad bd : ByteArray) (ao bo : Option Addr) (ak bk : Nat) (aes bes : List Ent) (hl : EntsIn w ao aes) (hm : EntsIn w bo bes) (hla : aes.length ≤ 1000000000000) (hlb : bes.length ≤ 1000000000000) :
    Calls Try.prog 16 #[.agg #[.int .u64 at_, .int .i64 av, .int .u64 ai, .int .u64 aj, .int .u64 ac, .string ad, .slice ao aes.length ak], .agg #[.int .u64 bt, .int .i64 bv, .int .u64 bi, .int .u64 bj, .int .u64 bc, .string bd, .slice bo bes.length bk]] w fun e w' => e = .returned (.bool (decide ((⟨⟨at_, av⟩, ⟨ai, aj, ac, ad⟩, aes⟩ : St) = ⟨⟨bt, bv⟩, ⟨bi, bj, bc, bd⟩, bes⟩))) ∧ Only NoBlock w w' := by
  generalize hq : decide ((⟨⟨at_, av⟩, ⟨ai, aj, ac, ad⟩, aes⟩ : St) = ⟨⟨bt, bv⟩, ⟨bi, bj, bc, bd⟩, bes⟩) = q
  have HQ := Lib.hid hq
  clear hq
  have hA := Blk.made w #[.int .u64 at_, .int .i64 av, .int .u64 ai, .int .u64 aj, .int .u64 ac, .string ad, .slice ao aes.length ak] 42
  have hnA := (Only.refl NoBlock w).alloc (Obj.cells #[.int .u64 at_, .int .i64 av, .int .u64 ai, .int .u64 aj, .int .u64 ac, .string ad, .slice ao aes.length ak] 42)
  have hzA : (w.alloc (Obj.cells #[.int .u64 at_, .int .i64 av, .int .u64 ai, .int .u64 aj, .int .u64 ac, .string ad, .slice ao aes.length ak] 42)).heap.size = w.heap.size + 1 := by simp
  go_enter Try.func16, Try.ntmps16
  go_upto_region 1 with fail
  generalize w.alloc (Obj.cells #[.int .u64 at_, .int .i64 av, .int .u64 ai, .int .u64 aj, .int .u64 ac, .string ad, .slice ao aes.length ak] 42) = w1 at hA hnA hzA ⊢
  have hB := Blk.made w1 #[.int .u64 bt, .int .i64 bv, .int .u64 bi, .int .u64 bj, .int .u64 bc, .string bd, .slice bo bes.length bk] 50
  rw [hzA] at hB
  have hA2 := hA.alloc (Obj.cells #[.int .u64 bt, .int .i64 bv, .int .u64 bi, .int .u64 bj, .int .u64 bc, .string bd, .slice bo bes.length bk] 50)
  have hnB := hnA.alloc (Obj.cells #[.int .u64 bt, .int .i64 bv, .int .u64 bi, .int .u64 bj, .int .u64 bc, .string bd, .slice bo bes.length bk] 50)
  generalize w1.alloc (Obj.cells #[.int .u64 bt, .int .i64 bv, .int .u64 bi, .int .u64 bj, .int .u64 bc, .string bd, .slice bo bes.length bk] 50) = w2 at hB hA2 hnB ⊢
  have hl2 := hl.keeps hnB (fun _ _ h => h)
  have hm2 := hm.keeps hnB (fun _ _ h => h)
  have a0 : w2.cell? ⟨w.heap.size, 0, none⟩ = some (.int .u64 at_) := by rw [hA2.cell]; rfl
  have a1 : w2.cell? ⟨w.heap.size, 1, none⟩ = some (.int .i64 av) := by rw [hA2.cell]; rfl
  have a2 : w2.cell? ⟨w.heap.size, 2, none⟩ = some (.int .u64 ai) := by rw [hA2.cell]; rfl
  have a3 : w2.cell? ⟨w.heap.size, 3, none⟩ = some (.int .u64 aj) := by rw [hA2.cell]; rfl
  have a4 : w2.cell? ⟨w.heap.size, 4, none⟩ = some (.int .u64 ac) := by rw [hA2.cell]; rfl
  have a5 : w2.cell? ⟨w.heap.size, 5, none⟩ = some (.string ad) := by rw [hA2.cell]; rfl
  have a6 : w2.cell? ⟨w.heap.size, 6, none⟩ = some (.slice ao aes.length ak) := by rw [hA2.cell]; rfl
  have b0 : w2.cell? ⟨w.heap.size + 1, 0, none⟩ = some (.int .u64 bt) := by rw [hB.cell]; rfl
  have b1 : w2.cell? ⟨w.heap.size + 1, 1, none⟩ = some (.int .i64 bv) := by rw [hB.cell]; rfl
  have b2 : w2.cell? ⟨w.heap.size + 1, 2, none⟩ = some (.int .u64 bi) := by rw [hB.cell]; rfl
  have b3 : w2.cell? ⟨w.heap.size + 1, 3, none⟩ = some (.int .u64 bj) := by rw [hB.cell]; rfl
  have b4 : w2.cell? ⟨w.heap.size + 1, 4, none⟩ = some (.int .u64 bc) := by rw [hB.cell]; rfl
  have b5 : w2.cell? ⟨w.heap.size + 1, 5, none⟩ = some (.string bd) := by rw [hB.cell]; rfl
  have b6 : w2.cell? ⟨w.heap.size + 1, 6, none⟩ = some (.slice bo bes.length bk) := by rw [hB.cell]; rfl
  clear hA hnA hA2 hB hl hm hzA
  go_wp2_with fail
  refine (rsame8_raw w2 at_ bt ai bi aj bj ac bc av bv ad bd ao bo ak bk aes bes hl2 hm2 hla hlb).mono ?_
  rintro e w3 ⟨he, hO⟩
  rw [HQ.out] at he
  subst he
  go_wp2_with fail
  go_ret
  exact ⟨rfl, hnB.trans hO⟩
/-- two states are compared: the program's and the document's -/
theorem same8_at (w : World) (a b : St) (ao bo : Option Addr) (ak bk : Nat) (hl : EntsIn w ao a.es) (hm : EntsIn w bo b.es) (hla : a.es.length ≤ 1000000000000) (hlb : b.es.length ≤ 1000000000000) :
    Calls Try.prog 16 #[.agg (stCells a.hard a.snap (.slice ao a.es.length ak)), .agg (stCells b.hard b.snap (.slice bo b.es.length bk))] w fun e w' => e = .returned (.bool (decide (a = b))) ∧ Only NoBlock w w' := by
  obtain ⟨⟨a1, a2⟩, ⟨a3, a4, a5, a6⟩, a7⟩ := a
  obtain ⟨⟨b1, b2⟩, ⟨b3, b4, b5, b6⟩, b7⟩ := b
  exact same8_raw w a1 b1 a3 b3 a4 b4 a5 b5 a2 b2 a6 b6 ao bo ak bk a7 b7 hl hm hla hlb

theorem save_nil (w : World) (a : Nat) (b : Int) (y : Value) : Calls Try.prog 19 #[.pointer none, .agg #[.int .u64 a, .int .i64 b], y] w fun e w' => e = .returned (.int .i64 10) ∧ Only NoBlock w w' := by

  have hn := (Only.refl NoBlock w).alloc (Obj.cells #[.int .u64 a, .int .i64 b] 37)
  go_enter Try.func19, Try.ntmps19
  go_wp2_with fail
  go_ret
  exact ⟨rfl, hn⟩
theorem anew_nil8 (w : World) : Calls Try.prog 24 #[.pointer none, noState] w fun e w' => e = .returned (.int .i64 10) ∧ Only NoBlock w w' := by
  have hn := (Only.refl NoBlock w).alloc (Obj.cells #[.int .u64 0, .int .i64 0, .int .u64 0, .int .u64 0, .int .u64 0, .string { data := #[] }, .slice none 0 0] 42)
  unfold noState
  go_enter Try.func24, Try.ntmps24
  go_wp2_with fail
  go_ret
  exact ⟨rfl, hn⟩
set_option maxHeartbeats 1000000 in
theorem state_nil8 (w : World) : Calls Try.prog 17 #[.pointer none] w fun e w' => e = .returned noState ∧ Only NoBlock w w' := by
  have hr := Blk.made w #[.int .u64 0, .int .i64 0, .int .u64 0, .int .u64 0, .int .u64 0, .string { data := #[] }, .slice none 0 0] 42
  have hn := (Only.refl NoBlock w).alloc (Obj.cells #[.int .u64 0, .int .i64 0, .int .u64 0, .int .u64 0, .int .u64 0, .string { data := #[] }, .slice none 0 0] 42)
  go_enter Try.func17, Try.ntmps17
  go_upto_region 1 with fail
  generalize w.alloc (Obj.cells #[.int .u64 0, .int .i64 0, .int .u64 0, .int .u64 0, .int .u64 0, .string { data := #[] }, .slice none 0 0] 42) = w1 at hr hn ⊢
  obtain ⟨fs, hfs⟩ := Sto.u_state
  have HFS := Lib.hid hfs
  clear hfs
  have q0 : w1.cell? ⟨w.heap.size, 0, none⟩ = some (.int .u64 0) := by rw [hr.cell]; rfl
  have f0 := hr.free 0
  have q1 : w1.cell? ⟨w.heap.size, 1, none⟩ = some (.int .i64 0) := by rw [hr.cell]; rfl
  have f1 := hr.free 1
  have q2 : w1.cell? ⟨w.heap.size, 2, none⟩ = some (.int .u64 0) := by rw [hr.cell]; rfl
  have f2 := hr.free 2
  have q3 : w1.cell? ⟨w.heap.size, 3, none⟩ = some (.int .u64 0) := by rw [hr.cell]; rfl
  have f3 := hr.free 3
  have q4 : w1.cell? ⟨w.heap.size, 4, none⟩ = some (.int .u64 0) := by rw [hr.cell]; rfl
  have f4 := hr.free 4
  have q5 : w1.cell? ⟨w.heap.size, 5, none⟩ = some (.string { data := #[] }) := by rw [hr.cell]; rfl
  have f5 := hr.free 5
  have q6 : w1.cell? ⟨w.heap.size, 6, none⟩ = some (.slice none 0 0) := by rw [hr.cell]; rfl
  have f6 := hr.free 6
  go_wp2_with fail
  have hz := zset_only w1 w.heap.size
  have hn2 := hn.andThen hz (fun k hk e => by have e' : k = w.heap.size := e; omega)
  (try simp only [Exit.inBlock, Exit.then])
  refine bodyPost_ret (results_cell_row (P := Try.prog) rfl _ _ w.heap.size _ _ _ _ rfl (zero_set hr) HFS.out rfl Sto.size_state) rfl ?_
  exact ⟨rfl, hn2⟩
end Go.Proofs.Ytekmjhenhgmpgaa
