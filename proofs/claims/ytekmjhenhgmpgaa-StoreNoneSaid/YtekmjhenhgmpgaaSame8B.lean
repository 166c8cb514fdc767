/- Two states compared. -/
import Derived.Test.YtekmjhenhgmpgaaSame8
namespace Go.Proofs.Ytekmjhenhgmpgaa
open Go.RowKit
set_option maxRecDepth 100000

set_option maxHeartbeats 4000000 in
theorem rsame8_raw (w : World) (at_ bt ai bi aj bj ac bc : Nat) (av bv : Int) (ad bd : ByteArray) (ao bo : Option Addr) (ak bk : Nat) (aes bes : List Ent) (hl : EntsIn w ao aes) (hm : EntsIn w bo bes) (hla : aes.length ≤ 1000000000000) (hlb : bes.length ≤ 1000000000000) :
    Calls Try.prog 44 #[.agg #[.int .u64 at_, .int .i64 av, .int .u64 ai, .int .u64 aj, .int .u64 ac, .string ad, .slice ao aes.length ak], .agg #[.int .u64 bt, .int .i64 bv, .int .u64 bi, .int .u64 bj, .int .u64 bc, .string bd, .slice bo bes.length bk]] w fun e w' => e = .returned (.bool (decide ((⟨⟨at_, av⟩, ⟨ai, aj, ac, ad⟩, aes⟩ : St) = ⟨⟨bt, bv⟩, ⟨bi, bj, bc, bd⟩, bes⟩))) ∧ Only NoBlock w w' := by
  have hA := Blk.made w #[.int .u64 at_, .int .i64 av, .int .u64 ai, .int .u64 aj, .int .u64 ac, .string ad, .slice ao aes.length ak] 50
  have hnA := (Only.refl NoBlock w).alloc (Obj.cells #[.int .u64 at_, .int .i64 av, .int .u64 ai, .int .u64 aj, .int .u64 ac, .string ad, .slice ao aes.length ak] 50)
  have hzA : (w.alloc (Obj.cells #[.int .u64 at_, .int .i64 av, .int .u64 ai, .int .u64 aj, .int .u64 ac, .string ad, .slice ao aes.length ak] 50)).heap.size = w.heap.size + 1 := by simp
  go_enter Try.func44, Try.ntmps44
  go_upto_region 1 with fail
  generalize w.alloc (Obj.cells #[.int .u64 at_, .int .i64 av, .int .u64 ai, .int .u64 aj, .int .u64 ac, .string ad, .slice ao aes.length ak] 50) = w1 at hA hnA hzA ⊢
  have hB := Blk.made w1 #[.int .u64 bt, .int .i64 bv, .int .u64 bi, .int .u64 bj, .int .u64 bc, .string bd, .slice bo bes.length bk] 50
  rw [hzA] at hB
  have hA2 := hA.alloc (Obj.cells #[.int .u64 bt, .int .i64 bv, .int .u64 bi, .int .u64 bj, .int .u64 bc, .string bd, .slice bo bes.length bk] 50)
  have hnB := hnA.alloc (Obj.cells #[.int .u64 bt, .int .i64 bv, .int .u64 bi, .int .u64 bj, .int .u64 bc, .string bd, .slice bo bes.length bk] 50)
  generalize w1.alloc (Obj.cells #[.int .u64 bt, .int .i64 bv, .int .u64 bi, .int .u64 bj, .int .u64 bc, .string bd, .slice bo bes.length bk] 50) = w2 at hB hA2 hnB ⊢
  have hl2 := hl.keeps hnB (fun _ _ h => h)
  have hm2 := hm.keeps hnB (fun _ _ h => h)
  have a0 : w2.cell? ⟨w.heap.size, 0, none⟩ = some (.int .u64 at_) := by rw [hA2.cell]; rfl
  have a1 : w2.cell? ⟨w.heap.size, 1, none⟩ = some (.int .i64 av) := by rw [hA2.cell]; rfl
  have a2 : w2.cell? ⟨w.heap.size, 2, none⟩ = some (.int .u64 ai) := by rw [hA2.cell]; rfl
  have a3 : w2.cell? ⟨w.heap.size, 3, none⟩ = some (.int .u64 aj) := by rw [hA2.cell]; rfl
  have a4 : w2.cell? ⟨w.heap.size, 4, none⟩ = some (.int .u64 ac) := by rw [hA2.cell]; rfl
  have a5 : w2.cell? ⟨w.heap.size, 5, none⟩ = some (.string ad) := by rw [hA2.cell]; rfl
  have a6 : w2.cell? ⟨w.heap.size, 6, none⟩ = some (.slice ao aes.length ak) := by rw [hA2.cell]; rfl
  have b0 : w2.cell? ⟨w.heap.size + 1, 0, none⟩ = some (.int .u64 bt) := by rw [hB.cell]; rfl
  have b1 : w2.cell? ⟨w.heap.size + 1, 1, none⟩ = some (.int .i64 bv) := by rw [hB.cell]; rfl
  have b2 : w2.cell? ⟨w.heap.size + 1, 2, none⟩ = some (.int .u64 bi) := by rw [hB.cell]; rfl
  have b3 : w2.cell? ⟨w.heap.size + 1, 3, none⟩ = some (.int .u64 bj) := by rw [hB.cell]; rfl
  have b4 : w2.cell? ⟨w.heap.size + 1, 4, none⟩ = some (.int .u64 bc) := by rw [hB.cell]; rfl
  have b5 : w2.cell? ⟨w.heap.size + 1, 5, none⟩ = some (.string bd) := by rw [hB.cell]; rfl
  have b6 : w2.cell? ⟨w.heap.size + 1, 6, none⟩ = some (.slice bo bes.length bk) := by rw [hB.cell]; rfl
  clear hA hnA hA2 hB hl hm hzA
  by_cases gat_ : at_ = bt
  · subst gat_
    by_cases gav : av = bv
    · subst gav
      by_cases gai : ai = bi
      · subst gai
        by_cases gaj : aj = bj
        · subst gaj
          by_cases gac : ac = bc
          · subst gac
            by_cases gad : ad = bd
            · subst gad
              go_wp2_with fail
              refine (rsame7_at _ ao bo ak bk aes bes hl2 hm2 hla hlb).mono ?_
              rintro e w3 ⟨rfl, q, rfl⟩
              have hd : decide (aes = bes) = decide ((⟨⟨at_, av⟩, ⟨ai, aj, ac, ad⟩, aes⟩ : St) = ⟨⟨at_, av⟩, ⟨ai, aj, ac, ad⟩, bes⟩) := by by_cases h : aes = bes; (· subst h; simp); (· rw [decide_eq_false h, decide_eq_false (fun e => by cases e; exact h rfl)])
              have HD := Lib.hid hd
              clear hd
              go_wp2_with fail
              go_ret
              exact ⟨by rw [← HD.out]; rfl, hnB.drewN q⟩
            · have HN : RowKit.Hid (decide ((⟨⟨at_, av⟩, ⟨ai, aj, ac, ad⟩, aes⟩ : St) = ⟨⟨at_, av⟩, ⟨ai, aj, ac, bd⟩, bes⟩) = false) := Lib.hid (by rw [decide_eq_false_iff_not]; intro e; cases e; exact gad rfl)
              have g' := ba_neb8 gad
              go_wp2_with fail
              go_ret
              exact ⟨by rw [HN.out]; rfl, hnB⟩
          · have HN : RowKit.Hid (decide ((⟨⟨at_, av⟩, ⟨ai, aj, ac, ad⟩, aes⟩ : St) = ⟨⟨at_, av⟩, ⟨ai, aj, bc, bd⟩, bes⟩) = false) := Lib.hid (by rw [decide_eq_false_iff_not]; intro e; cases e; exact gac rfl)
            have g' : ¬ (ac : Int) = (bc : Int) := by omega
            go_wp2_with fail
            go_ret
            exact ⟨by rw [HN.out]; rfl, hnB⟩
        · have HN : RowKit.Hid (decide ((⟨⟨at_, av⟩, ⟨ai, aj, ac, ad⟩, aes⟩ : St) = ⟨⟨at_, av⟩, ⟨ai, bj, bc, bd⟩, bes⟩) = false) := Lib.hid (by rw [decide_eq_false_iff_not]; intro e; cases e; exact gaj rfl)
          have g' : ¬ (aj : Int) = (bj : Int) := by omega
          go_wp2_with fail
          go_ret
          exact ⟨by rw [HN.out]; rfl, hnB⟩
      · have HN : RowKit.Hid (decide ((⟨⟨at_, av⟩, ⟨ai, aj, ac, ad⟩, aes⟩ : St) = ⟨⟨at_, av⟩, ⟨bi, bj, bc, bd⟩, bes⟩) = false) := Lib.hid (by rw [decide_eq_false_iff_not]; intro e; cases e; exact gai rfl)
        have g' : ¬ (ai : Int) = (bi : Int) := by omega
        go_wp2_with fail
        go_ret
        exact ⟨by rw [HN.out]; rfl, hnB⟩
    · have HN : RowKit.Hid (decide ((⟨⟨at_, av⟩, ⟨ai, aj, ac, ad⟩, aes⟩ : St) = ⟨⟨at_, bv⟩, ⟨bi, bj, bc, bd⟩, bes⟩) = false) := Lib.hid (by rw [decide_eq_false_iff_not]; intro e; cases e; exact gav rfl)
      go_wp2_with fail
      go_ret
      exact ⟨by rw [HN.out]; rfl, hnB⟩
  · have HN : RowKit.Hid (decide ((⟨⟨at_, av⟩, ⟨ai, aj, ac, ad⟩, aes⟩ : St) = ⟨⟨bt, bv⟩, ⟨bi, bj, bc, bd⟩, bes⟩) = false) := Lib.hid (by rw [decide_eq_false_iff_not]; intro e; cases e; exact gat_ rfl)
    have g' : ¬ (at_ : Int) = (bt : Int) := by omega
    go_wp2_with fail
    go_ret
    exact ⟨by rw [HN.out]; rfl, hnB⟩
end Go.Proofs.Ytekmjhenhgmpgaa
