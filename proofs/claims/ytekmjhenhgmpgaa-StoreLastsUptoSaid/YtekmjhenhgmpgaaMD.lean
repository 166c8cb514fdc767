/- What the statements of this seat lean on, part D: what the program's and the document's functions compute, in plain data. -/
import Derived.Test.YtekmjhenhgmpgaaMC
import Derived.ProofKit
import Derived.SliceStrings
import Derived.SizedLaws
import Derived.Deep.Slices
import Derived.Deep.Fields
import Derived.ChangeSame
import Derived.OpenShut
import Derived.Deep.RegionHeld3

/- States and rows of entries compared. -/
namespace Go.Proofs.Ytekmjhenhgmpgaa
open Go.RowKit
set_option maxRecDepth 100000

instance : DecidableEq Ent := fun a b => if h : a.term = b.term ∧ a.index = b.index ∧ a.kind = b.kind ∧ a.data = b.data then isTrue (by obtain ⟨a1, a2, a3, a4⟩ := a; obtain ⟨b1, b2, b3, b4⟩ := b; obtain ⟨h1, h2, h3, h4⟩ := h; simp only at h1 h2 h3 h4; subst h1; subst h2; subst h3; subst h4; rfl) else isFalse (by intro e; subst e; exact h ⟨rfl, rfl, rfl, rfl⟩)
instance : DecidableEq Hrd := fun a b => if h : a.term = b.term ∧ a.vote = b.vote then isTrue (by obtain ⟨a1, a2⟩ := a; obtain ⟨b1, b2⟩ := b; obtain ⟨h1, h2⟩ := h; simp only at h1 h2; subst h1; subst h2; rfl) else isFalse (by intro e; subst e; exact h ⟨rfl, rfl⟩)
instance : DecidableEq Snp := fun a b => if h : a.index = b.index ∧ a.term = b.term ∧ a.config = b.config ∧ a.data = b.data then isTrue (by obtain ⟨a1, a2, a3, a4⟩ := a; obtain ⟨b1, b2, b3, b4⟩ := b; obtain ⟨h1, h2, h3, h4⟩ := h; simp only at h1 h2 h3 h4; subst h1; subst h2; subst h3; subst h4; rfl) else isFalse (by intro e; subst e; exact h ⟨rfl, rfl, rfl, rfl⟩)
instance : DecidableEq St := fun a b => if h : a.hard = b.hard ∧ a.snap = b.snap ∧ a.es = b.es then isTrue (by obtain ⟨a1, a2, a3⟩ := a; obtain ⟨b1, b2, b3⟩ := b; obtain ⟨h1, h2, h3⟩ := h; simp only at h1 h2 h3; subst h1; subst h2; subst h3; rfl) else isFalse (by intro e; subst e; exact h ⟨rfl, rfl, rfl⟩)

theorem ba_neb8 {x y : ByteArray} (h : ¬ x = y) : (x.toList == y.toList) = false := by
  have : x.toList ≠ y.toList := by
    rw [ByteArray.toList_eq, ByteArray.toList_eq]
    obtain ⟨⟨a⟩⟩ := x
    obtain ⟨⟨b⟩⟩ := y
    intro e
    exact h (by cases e; rfl)
  simpa using this
theorem ents_take_snoc {l : List Ent} {k : Nat} (h : k < l.length) : l.take (k + 1) = l.take k ++ [l.getD k Ent.zero] := by
  rw [List.take_add_one, List.getElem?_eq_getElem h, List.getD_eq_getElem?_getD, List.getElem?_eq_getElem h]; rfl

set_option maxHeartbeats 2000000 in
theorem rsame7_at (w : World) (ao bo : Option Addr) (ca cb : Nat) (l m : List Ent) (hl : EntsIn w ao l) (hm : EntsIn w bo m) (hla : l.length ≤ 1000000000000) (hlb : m.length ≤ 1000000000000) :
    Calls Try.prog 71 #[.slice ao l.length ca, .slice bo m.length cb] w fun e w' => e = .returned (.bool (decide (l = m))) ∧ ∃ q, w' = w.drewN q := by
  by_cases hlen : l.length = m.length
  · have hlb2 : ((l.length : Int) != (m.length : Int)) = false := by simp [hlen]
    have HL := Lib.hid hlen
    clear hlen
    go_enter Try.func71, Try.ntmps71
    go_wp2_with fail
    go_loopw [5] (fun i wr => ∃ (k q : Nat), k ≤ l.length ∧ i = .int .i64 k ∧ wr = w.drewN q ∧ RowKit.Hid (l.take k = m.take k)) (fun i _ => l.length - (intOf i).toNat)
    case atStart => exact ⟨0, 0, by omega, rfl, rfl, Lib.hid rfl⟩
    case round =>
      obtain ⟨k, q, hk, rfl, rfl, HS⟩ := hrel
      by_cases hlt : k < l.length
      · have hlt2 : k < m.length := by rw [← HL.out]; exact hlt
        obtain ⟨b1, o1, rfl, c0, c1, c2, c3⟩ := hl.cell k hlt
        obtain ⟨b2, o2, rfl, d0, d1, d2, d3⟩ := hm.cell k hlt2
        have t1 := ents_take_snoc hlt
        have t2 := ents_take_snoc hlt2
        have hg1 : l[k]? = some (l.getD k Ent.zero) := by rw [List.getD_eq_getElem?_getD, List.getElem?_eq_getElem hlt]; rfl
        have hg2 : m[k]? = some (m.getD k Ent.zero) := by rw [List.getD_eq_getElem?_getD, List.getElem?_eq_getElem hlt2]; rfl
        have HT := Lib.hid (And.intro t1 (And.intro t2 (And.intro hg1 hg2)))
        clear t1 t2 hg1 hg2
        generalize l.getD k Ent.zero = x at c0 c1 c2 c3 HT
        generalize m.getD k Ent.zero = y at d0 d1 d2 d3 HT
        by_cases hxy : x = y
        · subst hxy
          obtain ⟨x1, x2, x3, x4⟩ := x
          simp only at c0 c1 c2 c3 d0 d1 d2 d3
          go_wp2_with fail
          go_quiet (fail)
          go_wp2_with fail
          refine ⟨⟨k + 1, q + nq, by omega, by go_num, rfl, Lib.hid (by obtain ⟨h1, h2, _⟩ := HT.out; rw [h1, h2, HS.out])⟩, by simp [intOf]; omega⟩
        · have hne : ¬ l = m := by
            intro e
            obtain ⟨_, _, h3, h4⟩ := HT.out
            rw [e, h4] at h3
            cases h3
            exact hxy rfl
          have HN : RowKit.Hid (decide (l = m) = false) := Lib.hid (by simpa using hne)
          clear hne HT
          obtain ⟨x1, x2, x3, x4⟩ := x
          obtain ⟨y1, y2, y3, y4⟩ := y
          simp only at c0 c1 c2 c3 d0 d1 d2 d3
          by_cases g1 : x1 = y1
          · subst g1
            by_cases g2 : x2 = y2
            · subst g2
              by_cases g3 : x3 = y3
              · subst g3
                have g4 := ba_neb8 (x := x4) (y := y4) (fun e => hxy (by rw [e]))
                clear hxy
                go_wp2_with fail
                go_quiet (fail)
                go_wp2_with fail
                go_ret
                exact ⟨by rw [HN.out]; rfl, _, World.drewN_drewN w q _⟩
              · clear hxy
                go_wp2_with fail
                go_quiet (fail)
                go_wp2_with fail
                go_ret
                exact ⟨by rw [HN.out]; rfl, _, World.drewN_drewN w q _⟩
            · clear hxy
              have g2' : ¬ (x2 : Int) = (y2 : Int) := by omega
              go_wp2_with fail
              go_quiet (fail)
              go_wp2_with fail
              go_ret
              exact ⟨by rw [HN.out]; rfl, _, World.drewN_drewN w q _⟩
          · clear hxy
            have g1' : ¬ (x1 : Int) = (y1 : Int) := by omega
            go_wp2_with fail
            go_quiet (fail)
            go_wp2_with fail
            go_ret
            exact ⟨by rw [HN.out]; rfl, _, World.drewN_drewN w q _⟩
      · obtain rfl : k = l.length := by omega
        have he : l = m := by
          have := HS.out
          rw [List.take_length, HL.out, List.take_length] at this
          exact this
        have HN : RowKit.Hid (decide (l = m) = true) := Lib.hid (by simpa using he)
        clear he
        go_wp2_with fail
        go_ret
        exact ⟨by rw [HN.out]; rfl, _, rfl⟩
  · have hlb2 : ((l.length : Int) != (m.length : Int)) = true := by simp; omega
    have HN : RowKit.Hid (decide (l = m) = false) := Lib.hid (by simp; intro e; exact hlen (by rw [e]))
    clear hlen
    go_enter Try.func71, Try.ntmps71
    go_wp2_with fail
    go_ret
    exact ⟨by rw [HN.out]; rfl, 0, rfl⟩
end Go.Proofs.Ytekmjhenhgmpgaa

/- Two states compared. -/
namespace Go.Proofs.Ytekmjhenhgmpgaa
open Go.RowKit
set_option maxRecDepth 100000

set_option maxHeartbeats 4000000 in
theorem rsame8_raw (w : World) (at_ bt ai bi aj bj ac bc : Nat) (av bv : Int) (ad bd : ByteArray) (ao bo : Option Addr) (ak bk : Nat) (aes bes : List Ent) (hl : EntsIn w ao aes) (hm : EntsIn w bo bes) (hla : aes.length ≤ 1000000000000) (hlb : bes.length ≤ 1000000000000) :
    Calls Try.prog 44 #[.agg #[.int .u64 at_, .int .i64 av, .int .u64 ai, .int .u64 aj, .int .u64 ac, .string ad, .slice ao aes.length ak], .agg #[.int .u64 bt, .int .i64 bv, .int .u64 bi, .int .u64 bj, .int .u64 bc, .string bd, .slice bo bes.length bk]] w fun e w' => e = .returned (.bool (decide ((⟨⟨at_, av⟩, ⟨ai, aj, ac, ad⟩, aes⟩ : St) = ⟨⟨bt, bv⟩, ⟨bi, bj, bc, bd⟩, bes⟩))) ∧ Only NoBlock w w' := by
  have hA := Blk.made w #[.int .u64 at_, .int .i64 av, .int .u64 ai, .int .u64 aj, .int .u64 ac, .string ad, .slice ao aes.length ak] 50
  have hnA := (Only.refl NoBlock w).alloc (Obj.cells #[.int .u64 at_, .int .i64 av, .int .u64 ai, .int .u64 aj, .int .u64 ac, .string ad, .slice ao aes.length ak] 50)
  have hzA : (w.alloc (Obj.cells #[.int .u64 at_, .int .i64 av, .int .u64 ai, .int .u64 aj, .int .u64 ac, .string ad, .slice ao aes.length ak] 50)).heap.size = w.heap.size + 1 := by simp
  go_enter Try.func44, Try.ntmps44
  go_upto_region 1 with fail
  generalize w.alloc (Obj.cells #[.int .u64 at_, .int .i64 av, .int .u64 ai, .int .u64 aj, .int .u64 ac, .string ad, .slice ao aes.length ak] 50) = w1 at hA hnA hzA ⊢
  have hB := Blk.made w1 #[.int .u64 bt, .int .i64 bv, .int .u64 bi, .int .u64 bj, .int .u64 bc, .string bd, .slice bo bes.length bk] 50
  rw [hzA] at hB
  have hA2 := hA.alloc (Obj.cells #[.int .u64 bt, .int .i64 bv, .int .u64 bi, .int .u64 bj, .int .u64 bc, .string bd, .slice bo bes.length bk] 50)
  have hnB := hnA.alloc (Obj.cells #[.int .u64 bt, .int .i64 bv, .int .u64 bi, .int .u64 bj, .int .u64 bc, .string bd, .slice bo bes.length bk] 50)
  generalize w1.alloc (Obj.cells #[.int .u64 bt, .int .i64 bv, .int .u64 bi, .int .u64 bj, .int .u64 bc, .string bd, .slice bo bes.length bk] 50) = w2 at hB hA2 hnB ⊢
  have hl2 := hl.keeps hnB (fun _ _ h => h)
  have hm2 := hm.keeps hnB (fun _ _ h => h)
  have a0 : w2.cell? ⟨w.heap.size, 0, none⟩ = some (.int .u64 at_) := by rw [hA2.cell]; rfl
  have a1 : w2.cell? ⟨w.heap.size, 1, none⟩ = some (.int .i64 av) := by rw [hA2.cell]; rfl
  have a2 : w2.cell? ⟨w.heap.size, 2, none⟩ = some (.int .u64 ai) := by rw [hA2.cell]; rfl
  have a3 : w2.cell? ⟨w.heap.size, 3, none⟩ = some (.int .u64 aj) := by rw [hA2.cell]; rfl
  have a4 : w2.cell? ⟨w.heap.size, 4, none⟩ = some (.int .u64 ac) := by rw [hA2.cell]; rfl
  have a5 : w2.cell? ⟨w.heap.size, 5, none⟩ = some (.string ad) := by rw [hA2.cell]; rfl
  have a6 : w2.cell? ⟨w.heap.size, 6, none⟩ = some (.slice ao aes.length ak) := by rw [hA2.cell]; rfl
  have b0 : w2.cell? ⟨w.heap.size + 1, 0, none⟩ = some (.int .u64 bt) := by rw [hB.cell]; rfl
  have b1 : w2.cell? ⟨w.heap.size + 1, 1, none⟩ = some (.int .i64 bv) := by rw [hB.cell]; rfl
  have b2 : w2.cell? ⟨w.heap.size + 1, 2, none⟩ = some (.int .u64 bi) := by rw [hB.cell]; rfl
  have b3 : w2.cell? ⟨w.heap.size + 1, 3, none⟩ = some (.int .u64 bj) := by rw [hB.cell]; rfl
  have b4 : w2.cell? ⟨w.heap.size + 1, 4, none⟩ = some (.int .u64 bc) := by rw [hB.cell]; rfl
  have b5 : w2.cell? ⟨w.heap.size + 1, 5, none⟩ = some (.string bd) := by rw [hB.cell]; rfl
  have b6 : w2.cell? ⟨w.heap.size + 1, 6, none⟩ = some (.slice bo bes.length bk) := by rw [hB.cell]; rfl
  clear hA hnA hA2 hB hl hm hzA
  by_cases gat_ : at_ = bt
  · subst gat_
    by_cases gav : av = bv
    · subst gav
      by_cases gai : ai = bi
      · subst gai
        by_cases gaj : aj = bj
        · subst gaj
          by_cases gac : ac = bc
          · subst gac
            by_cases gad : ad = bd
            · subst gad
              go_wp2_with fail
              refine (rsame7_at _ ao bo ak bk aes bes hl2 hm2 hla hlb).mono ?_
              rintro e w3 ⟨rfl, q, rfl⟩
              have hd : decide (aes = bes) = decide ((⟨⟨at_, av⟩, ⟨ai, aj, ac, ad⟩, aes⟩ : St) = ⟨⟨at_, av⟩, ⟨ai, aj, ac, ad⟩, bes⟩) := by by_cases h : aes = bes; (· subst h; simp); (· rw [decide_eq_false h, decide_eq_false (fun e => by cases e; exact h rfl)])
              have HD := Lib.hid hd
              clear hd
              go_wp2_with fail
              go_ret
              exact ⟨by rw [← HD.out]; rfl, hnB.drewN q⟩
            · have HN : RowKit.Hid (decide ((⟨⟨at_, av⟩, ⟨ai, aj, ac, ad⟩, aes⟩ : St) = ⟨⟨at_, av⟩, ⟨ai, aj, ac, bd⟩, bes⟩) = false) := Lib.hid (by rw [decide_eq_false_iff_not]; intro e; cases e; exact gad rfl)
              have g' := ba_neb8 gad
              go_wp2_with fail
              go_ret
              exact ⟨by rw [HN.out]; rfl, hnB⟩
          · have HN : RowKit.Hid (decide ((⟨⟨at_, av⟩, ⟨ai, aj, ac, ad⟩, aes⟩ : St) = ⟨⟨at_, av⟩, ⟨ai, aj, bc, bd⟩, bes⟩) = false) := Lib.hid (by rw [decide_eq_false_iff_not]; intro e; cases e; exact gac rfl)
            have g' : ¬ (ac : Int) = (bc : Int) := by omega
            go_wp2_with fail
            go_ret
            exact ⟨by rw [HN.out]; rfl, hnB⟩
        · have HN : RowKit.Hid (decide ((⟨⟨at_, av⟩, ⟨ai, aj, ac, ad⟩, aes⟩ : St) = ⟨⟨at_, av⟩, ⟨ai, bj, bc, bd⟩, bes⟩) = false) := Lib.hid (by rw [decide_eq_false_iff_not]; intro e; cases e; exact gaj rfl)
          have g' : ¬ (aj : Int) = (bj : Int) := by omega
          go_wp2_with fail
          go_ret
          exact ⟨by rw [HN.out]; rfl, hnB⟩
      · have HN : RowKit.Hid (decide ((⟨⟨at_, av⟩, ⟨ai, aj, ac, ad⟩, aes⟩ : St) = ⟨⟨at_, av⟩, ⟨bi, bj, bc, bd⟩, bes⟩) = false) := Lib.hid (by rw [decide_eq_false_iff_not]; intro e; cases e; exact gai rfl)
        have g' : ¬ (ai : Int) = (bi : Int) := by omega
        go_wp2_with fail
        go_ret
        exact ⟨by rw [HN.out]; rfl, hnB⟩
    · have HN : RowKit.Hid (decide ((⟨⟨at_, av⟩, ⟨ai, aj, ac, ad⟩, aes⟩ : St) = ⟨⟨at_, bv⟩, ⟨bi, bj, bc, bd⟩, bes⟩) = false) := Lib.hid (by rw [decide_eq_false_iff_not]; intro e; cases e; exact gav rfl)
      go_wp2_with fail
      go_ret
      exact ⟨by rw [HN.out]; rfl, hnB⟩
  · have HN : RowKit.Hid (decide ((⟨⟨at_, av⟩, ⟨ai, aj, ac, ad⟩, aes⟩ : St) = ⟨⟨bt, bv⟩, ⟨bi, bj, bc, bd⟩, bes⟩) = false) := Lib.hid (by rw [decide_eq_false_iff_not]; intro e; cases e; exact gat_ rfl)
    have g' : ¬ (at_ : Int) = (bt : Int) := by omega
    go_wp2_with fail
    go_ret
    exact ⟨by rw [HN.out]; rfl, hnB⟩
end Go.Proofs.Ytekmjhenhgmpgaa

/- What the store's statements lean on: states compared, a store that is none. -/
namespace Go.Proofs.Ytekmjhenhgmpgaa
open Go.RowKit
set_option maxRecDepth 100000

set_option maxHeartbeats 1000000 in
theorem same8_raw (w : World) (at_ bt ai bi aj bj ac bc : Nat) (av bv : Int) (ad bd : ByteArray) (ao bo : Option Addr) (ak bk : Nat) (aes bes : List Ent) (hl : EntsIn w ao aes) (hm : EntsIn w bo bes) (hla : aes.length ≤ 1000000000000) (hlb : bes.length ≤ 1000000000000) :
    Calls Try.prog 16 #[.agg #[.int .u64 at_, .int .i64 av, .int .u64 ai, .int .u64 aj, .int .u64 ac, .string ad, .slice ao aes.length ak], .agg #[.int .u64 bt, .int .i64 bv, .int .u64 bi, .int .u64 bj, .int .u64 bc, .string bd, .slice bo bes.length bk]] w fun e w' => e = .returned (.bool (decide ((⟨⟨at_, av⟩, ⟨ai, aj, ac, ad⟩, aes⟩ : St) = ⟨⟨bt, bv⟩, ⟨bi, bj, bc, bd⟩, bes⟩))) ∧ Only NoBlock w w' := by
  generalize hq : decide ((⟨⟨at_, av⟩, ⟨ai, aj, ac, ad⟩, aes⟩ : St) = ⟨⟨bt, bv⟩, ⟨bi, bj, bc, bd⟩, bes⟩) = q
  have HQ := Lib.hid hq
  clear hq
  have hA := Blk.made w #[.int .u64 at_, .int .i64 av, .int .u64 ai, .int .u64 aj, .int .u64 ac, .string ad, .slice ao aes.length ak] 42
  have hnA := (Only.refl NoBlock w).alloc (Obj.cells #[.int .u64 at_, .int .i64 av, .int .u64 ai, .int .u64 aj, .int .u64 ac, .string ad, .slice ao aes.length ak] 42)
  have hzA : (w.alloc (Obj.cells #[.int .u64 at_, .int .i64 av, .int .u64 ai, .int .u64 aj, .int .u64 ac, .string ad, .slice ao aes.length ak] 42)).heap.size = w.heap.size + 1 := by simp
  go_enter Try.func16, Try.ntmps16
  go_upto_region 1 with fail
  generalize w.alloc (Obj.cells #[.int .u64 at_, .int .i64 av, .int .u64 ai, .int .u64 aj, .int .u64 ac, .string ad, .slice ao aes.length ak] 42) = w1 at hA hnA hzA ⊢
  have hB := Blk.made w1 #[.int .u64 bt, .int .i64 bv, .int .u64 bi, .int .u64 bj, .int .u64 bc, .string bd, .slice bo bes.length bk] 50
  rw [hzA] at hB
  have hA2 := hA.alloc (Obj.cells #[.int .u64 bt, .int .i64 bv, .int .u64 bi, .int .u64 bj, .int .u64 bc, .string bd, .slice bo bes.length bk] 50)
  have hnB := hnA.alloc (Obj.cells #[.int .u64 bt, .int .i64 bv, .int .u64 bi, .int .u64 bj, .int .u64 bc, .string bd, .slice bo bes.length bk] 50)
  generalize w1.alloc (Obj.cells #[.int .u64 bt, .int .i64 bv, .int .u64 bi, .int .u64 bj, .int .u64 bc, .string bd, .slice bo bes.length bk] 50) = w2 at hB hA2 hnB ⊢
  have hl2 := hl.keeps hnB (fun _ _ h => h)
  have hm2 := hm.keeps hnB (fun _ _ h => h)
  have a0 : w2.cell? ⟨w.heap.size, 0, none⟩ = some (.int .u64 at_) := by rw [hA2.cell]; rfl
  have a1 : w2.cell? ⟨w.heap.size, 1, none⟩ = some (.int .i64 av) := by rw [hA2.cell]; rfl
  have a2 : w2.cell? ⟨w.heap.size, 2, none⟩ = some (.int .u64 ai) := by rw [hA2.cell]; rfl
  have a3 : w2.cell? ⟨w.heap.size, 3, none⟩ = some (.int .u64 aj) := by rw [hA2.cell]; rfl
  have a4 : w2.cell? ⟨w.heap.size, 4, none⟩ = some (.int .u64 ac) := by rw [hA2.cell]; rfl
  have a5 : w2.cell? ⟨w.heap.size, 5, none⟩ = some (.string ad) := by rw [hA2.cell]; rfl
  have a6 : w2.cell? ⟨w.heap.size, 6, none⟩ = some (.slice ao aes.length ak) := by rw [hA2.cell]; rfl
  have b0 : w2.cell? ⟨w.heap.size + 1, 0, none⟩ = some (.int .u64 bt) := by rw [hB.cell]; rfl
  have b1 : w2.cell? ⟨w.heap.size + 1, 1, none⟩ = some (.int .i64 bv) := by rw [hB.cell]; rfl
  have b2 : w2.cell? ⟨w.heap.size + 1, 2, none⟩ = some (.int .u64 bi) := by rw [hB.cell]; rfl
  have b3 : w2.cell? ⟨w.heap.size + 1, 3, none⟩ = some (.int .u64 bj) := by rw [hB.cell]; rfl
  have b4 : w2.cell? ⟨w.heap.size + 1, 4, none⟩ = some (.int .u64 bc) := by rw [hB.cell]; rfl
  have b5 : w2.cell? ⟨w.heap.size + 1, 5, none⟩ = some (.string bd) := by rw [hB.cell]; rfl
  have b6 : w2.cell? ⟨w.heap.size + 1, 6, none⟩ = some (.slice bo bes.length bk) := by rw [hB.cell]; rfl
  clear hA hnA hA2 hB hl hm hzA
  go_wp2_with fail
  refine (rsame8_raw w2 at_ bt ai bi aj bj ac bc av bv ad bd ao bo ak bk aes bes hl2 hm2 hla hlb).mono ?_
  rintro e w3 ⟨he, hO⟩
  rw [HQ.out] at he
  subst he
  go_wp2_with fail
  go_ret
  exact ⟨rfl, hnB.trans hO⟩
/-- two states are compared: the program's and the document's -/
theorem same8_at (w : World) (a b : St) (ao bo : Option Addr) (ak bk : Nat) (hl : EntsIn w ao a.es) (hm : EntsIn w bo b.es) (hla : a.es.length ≤ 1000000000000) (hlb : b.es.length ≤ 1000000000000) :
    Calls Try.prog 16 #[.agg (stCells a.hard a.snap (.slice ao a.es.length ak)), .agg (stCells b.hard b.snap (.slice bo b.es.length bk))] w fun e w' => e = .returned (.bool (decide (a = b))) ∧ Only NoBlock w w' := by
  obtain ⟨⟨a1, a2⟩, ⟨a3, a4, a5, a6⟩, a7⟩ := a
  obtain ⟨⟨b1, b2⟩, ⟨b3, b4, b5, b6⟩, b7⟩ := b
  exact same8_raw w a1 b1 a3 b3 a4 b4 a5 b5 a2 b2 a6 b6 ao bo ak bk a7 b7 hl hm hla hlb

theorem save_nil (w : World) (a : Nat) (b : Int) (y : Value) : Calls Try.prog 19 #[.pointer none, .agg #[.int .u64 a, .int .i64 b], y] w fun e w' => e = .returned (.int .i64 10) ∧ Only NoBlock w w' := by

  have hn := (Only.refl NoBlock w).alloc (Obj.cells #[.int .u64 a, .int .i64 b] 37)
  go_enter Try.func19, Try.ntmps19
  go_wp2_with fail
  go_ret
  exact ⟨rfl, hn⟩
theorem anew_nil8 (w : World) : Calls Try.prog 24 #[.pointer none, noState] w fun e w' => e = .returned (.int .i64 10) ∧ Only NoBlock w w' := by
  have hn := (Only.refl NoBlock w).alloc (Obj.cells #[.int .u64 0, .int .i64 0, .int .u64 0, .int .u64 0, .int .u64 0, .string { data := #[] }, .slice none 0 0] 42)
  unfold noState
  go_enter Try.func24, Try.ntmps24
  go_wp2_with fail
  go_ret
  exact ⟨rfl, hn⟩
set_option maxHeartbeats 1000000 in
theorem state_nil8 (w : World) : Calls Try.prog 17 #[.pointer none] w fun e w' => e = .returned noState ∧ Only NoBlock w w' := by
  have hr := Blk.made w #[.int .u64 0, .int .i64 0, .int .u64 0, .int .u64 0, .int .u64 0, .string { data := #[] }, .slice none 0 0] 42
  have hn := (Only.refl NoBlock w).alloc (Obj.cells #[.int .u64 0, .int .i64 0, .int .u64 0, .int .u64 0, .int .u64 0, .string { data := #[] }, .slice none 0 0] 42)
  go_enter Try.func17, Try.ntmps17
  go_upto_region 1 with fail
  generalize w.alloc (Obj.cells #[.int .u64 0, .int .i64 0, .int .u64 0, .int .u64 0, .int .u64 0, .string { data := #[] }, .slice none 0 0] 42) = w1 at hr hn ⊢
  obtain ⟨fs, hfs⟩ := Sto.u_state
  have HFS := Lib.hid hfs
  clear hfs
  have q0 : w1.cell? ⟨w.heap.size, 0, none⟩ = some (.int .u64 0) := by rw [hr.cell]; rfl
  have f0 := hr.free 0
  have q1 : w1.cell? ⟨w.heap.size, 1, none⟩ = some (.int .i64 0) := by rw [hr.cell]; rfl
  have f1 := hr.free 1
  have q2 : w1.cell? ⟨w.heap.size, 2, none⟩ = some (.int .u64 0) := by rw [hr.cell]; rfl
  have f2 := hr.free 2
  have q3 : w1.cell? ⟨w.heap.size, 3, none⟩ = some (.int .u64 0) := by rw [hr.cell]; rfl
  have f3 := hr.free 3
  have q4 : w1.cell? ⟨w.heap.size, 4, none⟩ = some (.int .u64 0) := by rw [hr.cell]; rfl
  have f4 := hr.free 4
  have q5 : w1.cell? ⟨w.heap.size, 5, none⟩ = some (.string { data := #[] }) := by rw [hr.cell]; rfl
  have f5 := hr.free 5
  have q6 : w1.cell? ⟨w.heap.size, 6, none⟩ = some (.slice none 0 0) := by rw [hr.cell]; rfl
  have f6 := hr.free 6
  go_wp2_with fail
  have hz := zset_only w1 w.heap.size
  have hn2 := hn.andThen hz (fun k hk e => by have e' : k = w.heap.size := e; omega)
  (try simp only [Exit.inBlock, Exit.then])
  refine bodyPost_ret (results_cell_row (P := Try.prog) rfl _ _ w.heap.size _ _ _ _ rfl (zero_set hr) HFS.out rfl Sto.size_state) rfl ?_
  exact ⟨rfl, hn2⟩
end Go.Proofs.Ytekmjhenhgmpgaa

/- A store is opened: what is answered, given by equations; the anchor of the store's statements holds. -/
namespace Go.Proofs.Ytekmjhenhgmpgaa
open Go.RowKit
set_option maxRecDepth 100000

theorem Wal.recs_short (s : ByteArray) : ∀ b ∈ Wal.recs s, b.size ≤ 65536 := by
  obtain ⟨t, h1, h2, -, h3, -⟩ := Wal.scan_sound (r := nums s) (nums_byte s)
  intro b hb
  unfold Wal.recs at hb
  obtain ⟨x, hx, rfl⟩ := List.mem_map.1 hb
  rw [textOf_size]
  exact (h3 x hx).2
theorem Sto.open_len {M : DM} (hM : M.Ok) (n : Int) : (Wal.openL M n).length ≤ 1048576 := Nat.le_trans (Wal.recs_few _) (Wal.read_size hM n)

theorem sopen_ok {w : World} {d mb : Nat} {M : DM} {n : Int} {m : Nat} (h : DiskAt w d mb M) (hw : (Lit.int .i64 n).wf = true) (hm : m < 18446744073709551616) (hE : Sto.openE M n m = 0) {M' : DM} (hM : Sto.openM M n m = M') {s : St} (hs : Sto.said (Sto.first m) (Wal.openL M n) = some s) :
    Calls Try.prog 14 #[.pointer (some ⟨d, 0, none⟩), .int .i64 n, .int .u64 m] w fun e w' => ∃ t g ao cap, e = .returned (.tuple #[.pointer (some ⟨t, 0, none⟩), .agg (stCells s.hard s.snap (.slice ao s.es.length cap)), .int .i64 0]) ∧
      w.heap.size ≤ t ∧ LogAt w' g d n ∧ StoreAt w' w.heap.size t g s ∧ EntsIn w' ao s.es ∧ (∀ a, ao = some a → w.heap.size ≤ a.block) ∧ s.es.length ≤ 1048576 ∧ DiskAt w' d mb M' ∧ Only (fun k => k = d ∨ k = mb) w w' := by
  have hlen := Sto.open_len h.ok n
  refine (storeopen_at w d mb M n m h hw hm (fun b hb => Nat.le_trans (Wal.recs_short _ b hb) (by decide)) (by omega)).mono ?_
  rintro e w' ⟨pt, x, rfl, hd, ho, ⟨h0, t, g, s', hs', rfl, ht, hl, hst, v, rfl, hv⟩ | ⟨h0, -⟩⟩
  · rw [hs] at hs'
    cases hs'
    have hle := Sto.said_len _ _ _ hs
    have hle2 : s.es.length ≤ 1048576 := by have : (Sto.first m).es.length = 0 := rfl; omega
    have hlt := World.ownsRow.lt hv.1
    obtain ⟨ao, cap, rfl⟩ := hv.shape
    exact ⟨t, g, ao, cap, by rw [hE], ht, hl, hst, (hv.read (by omega)).1, fun a e => by subst e; exact (hlt _ rfl).1, hle2, hM ▸ hd, ho⟩
  · exact absurd hE h0
theorem sopen_no {w : World} {d mb : Nat} {M : DM} {n : Int} {m : Nat} (h : DiskAt w d mb M) (hw : (Lit.int .i64 n).wf = true) (hm : m < 18446744073709551616) {k : Int} (hE : Sto.openE M n m = k) (hk : k ≠ 0) {M' : DM} (hM : Sto.openM M n m = M') :
    Calls Try.prog 14 #[.pointer (some ⟨d, 0, none⟩), .int .i64 n, .int .u64 m] w fun e w' => e = .returned (.tuple #[.pointer none, noState, .int .i64 k]) ∧ DiskAt w' d mb M' ∧ Only (fun k => k = d ∨ k = mb) w w' := by
  have hlen := Sto.open_len h.ok n
  refine (storeopen_at w d mb M n m h hw hm (fun b hb => Nat.le_trans (Wal.recs_short _ b hb) (by decide)) (by omega)).mono ?_
  rintro e w' ⟨pt, x, rfl, hd, ho, ⟨h0, -⟩ | ⟨h0, rfl, rfl⟩⟩
  · exact absurd (hE ▸ h0) hk
  · exact ⟨by rw [hE], hM ▸ hd, ho⟩
theorem save_as {w : World} {base t g d mb : Nat} {M : DM} {n : Int} {s : St} {h : Hrd} (hh : h.Wf) {ao : Option Addr} {cap len : Nat} {l : List Ent}
    (hd : DiskAt w d mb M) (hw : (Lit.int .i64 n).wf = true) (hg : LogAt w g d n) (hS : StoreAt w base t g s) (hbase : base ≤ w.heap.size) (hl : EntsIn w ao l) (hlen : l.length = len)
    (hse : s.es.length ≤ 1000000000) (hle : l.length ≤ 1000000000) (hdat : ∀ e ∈ l, e.data.size ≤ 1000000000) (hsz : (Wal.text (Sto.out s h l)).size ≤ 1000000000)
    {k : Int} (hE : Sto.saveE M n s h l = k) {M' : DM} (hM : Sto.saveM M n s h l = M') {s' : St} (hs : Sto.saveS M n s h l = s') :
    Calls Try.prog 19 #[.pointer (some ⟨t, 0, none⟩), .agg #[.int .u64 h.term, .int .i64 h.vote], .slice ao len cap] w (StoreEnd k M' s' base t g d mb w) := by
  subst hE; subst hM; subst hs; subst hlen
  exact save_at w base t g d mb M n s h hh ao cap l hd hw hg hS hbase hl hse hle hdat hsz

namespace Bg8
def N0 : DM := DM.new 1000
def N1 : DM := Sto.openM N0 0 7
def s0 : St := ⟨⟨0, -1⟩, ⟨0, 0, 7, ByteArray.empty⟩, []⟩
def hd : Hrd := ⟨3, 1⟩
def en : Ent := ⟨3, 1, 0, ByteArray.empty⟩
def N2 : DM := Sto.saveM N1 0 s0 hd [en]
def N3 : DM := N2.crash (keepOf [])
def N4 : DM := Sto.openM N3 0 7
def s1 : St := ⟨⟨3, 1⟩, ⟨0, 0, 7, ByteArray.empty⟩, [en]⟩
theorem e1 : Sto.openE N0 0 7 = 0 := by decide +kernel
theorem r1 : Sto.said (Sto.first 7) (Wal.openL N0 0) = some s0 := by decide +kernel
theorem e2 : Sto.saveE N1 0 s0 hd [en] = 0 := by decide +kernel
theorem z2 : (Wal.text (Sto.out s0 hd [en])).size ≤ 1000000000 := by decide +kernel
theorem e3 : Sto.openE N3 0 7 = 0 := by decide +kernel
theorem r3 : Sto.said (Sto.first 7) (Wal.openL N3 0) = some s1 := by decide +kernel
theorem hdwf : hd.Wf := ⟨by decide, by decide⟩
theorem enwf : en.Wf := ⟨by decide, by decide, by decide, by decide⟩
end Bg8
theorem ents_one (w : World) (e : Ent) (he : e.Wf) (t : TypeId) : EntsIn (w.alloc (.cells #[.int .u64 e.term, .int .u64 e.index, .int .i64 e.kind, .string e.data] t)) (some ⟨w.heap.size, 0, none⟩) [e] := by
  have hb := Blk.made w #[.int .u64 e.term, .int .u64 e.index, .int .i64 e.kind, .string e.data] t
  refine ⟨by simpa using he, by simp [maxLen], fun i hi => ?_⟩
  have hi0 : i = 0 := by simp at hi; omega
  subst hi0
  refine ⟨w.heap.size, 0, rfl, ?_, ?_, ?_, ?_⟩
  · rw [hb.cell]; rfl
  · rw [hb.cell]; rfl
  · rw [hb.cell]; rfl
  · rw [hb.cell]; rfl
end Go.Proofs.Ytekmjhenhgmpgaa

/- The anchor of the store's statements holds. -/
namespace Go.Proofs.Ytekmjhenhgmpgaa
open Go.RowKit
set_option maxRecDepth 100000

theorem ints_nil8 (w : World) : IntsIn w none [] := ⟨by simp, by simp [maxLen], fun i hi => by simp at hi⟩
set_option maxHeartbeats 2000000 in
theorem begun8_ok (w : World) :
    Calls Try.prog 8 #[] w fun e w' => e = .returned (.bool true) ∧ Only NoBlock w w' := by
  go_enter Try.func8, Try.ntmps8
  go_wp2_with fail
  refine (new_ok w 1000 (by omega) (by omega)).mono ?_
  rintro e w1 ⟨rfl, hd1, ho1, hs1⟩
  clear hs1
  obtain ⟨d, hd⟩ : ∃ d, w.heap.size + 1 = d := ⟨_, rfl⟩
  obtain ⟨mb, hm⟩ : ∃ mb, w.heap.size = mb := ⟨_, rfl⟩
  have hdb : w.heap.size ≤ d := by omega
  have hmb : w.heap.size ≤ mb := by omega
  rw [hd, hm] at hd1
  rw [hd]
  clear hd hm
  have HX : RowKit.Hid (∀ k, (k = d ∨ k = mb) → ¬ k < w.heap.size) := Lib.hid (by rintro k (rfl | rfl) <;> omega)
  go_wp2_with fail
  refine (sopen_ok hd1 (by decide) (by omega) Bg8.e1 (M' := Bg8.N1) rfl Bg8.r1).mono ?_
  rintro e w2 ⟨t, g, ao, cap, rfl, ht, hlog, hst, -, -, -, hd2, ho2⟩
  have hO2 : Only NoBlock w w2 := ho1.andThen ho2 (fun i hi e => HX.out i e hi)
  have hz1 := ho1.size
  have hst2 := hst.lower (b' := w.heap.size) hz1
  clear ho1 ho2 hst
  simp only [stCells, Bg8.s0, List.length_nil]
  go_upto_region 3 with fail
  have hA2 := (Only.refl NoBlock w2).alloc (Obj.cells #[.int .u64 0, .int .i64 (-1), .int .u64 0, .int .u64 0, .int .u64 7, .string ByteArray.empty, .slice ao 0 cap] 42)
  have hb2 := Blk.made w2 #[.int .u64 0, .int .i64 (-1), .int .u64 0, .int .u64 0, .int .u64 7, .string ByteArray.empty, .slice ao 0 cap] 42
  generalize hP : w2.heap.size = P at hb2 ⊢
  generalize w2.alloc (Obj.cells #[.int .u64 0, .int .i64 (-1), .int .u64 0, .int .u64 0, .int .u64 7, .string ByteArray.empty, .slice ao 0 cap] 42) = w3 at hA2 hb2 ⊢
  have hO3 := hO2.trans hA2
  have hd3 := hd2.keeps hA2 (fun h => h) (fun h => h)
  have hl3 : LogAt w3 g d 0 := Blk.keeps hlog hA2 (fun h => h)
  have hst3 := hst2.keeps hA2 (fun h => h) (fun _ _ h => h)
  have hPb : w.heap.size ≤ P := by have := hO2.size; omega
  have hdt := hst3.apart hb2 (by decide)
  have hPd : d ≠ P := by have := hd2.blk.lt; omega
  have hPm : mb ≠ P := by have := hd2.files.lt; omega
  clear hA2 hO2 hd2 hlog hst2 hP
  go_wp2_with fail
  have hal := (Only.refl NoBlock w3).alloc (Obj.cells #[Value.int .u64 3, .int .u64 1, .int .i64 0, .string ByteArray.empty] 77)
  have hz3 := hO3.size
  refine (save_as (h := Bg8.hd) Bg8.hdwf (hd3.keeps hal (fun h => h) (fun h => h)) (by decide) (Blk.keeps hl3 hal (fun h => h)) (hst3.keeps hal (fun h => h) (fun _ _ h => h)) (by simp; omega) (ents_one w3 Bg8.en Bg8.enwf _) rfl (by decide) (by decide) (by decide) Bg8.z2 Bg8.e2 (M' := Bg8.N2) rfl rfl).mono ?_
  rintro e w4 ⟨rfl, hd4, hst4, ho4⟩
  have hO4 : Only NoBlock w w4 := (hO3.trans hal).andThen ho4 (fun i hi e => e.elim (fun e => HX.out i (.inl e) hi) (fun e => e.elim (fun e => HX.out i (.inr e) hi) (fun e => by omega)))
  have hb4 := (hb2.keeps hal (fun h => h)).keeps ho4 (by rintro (e | e | e) <;> omega)
  clear hO3 hal hd3 hl3 hst3 hb2 hst4 ho4
  go_wp2_with fail
  refine (crash_as hd4 (ints_nil8 _) rfl (M' := Bg8.N3) rfl).mono ?_
  rintro e w5 ⟨rfl, hd5, ho5⟩
  have z4 := hO4.size
  have hO5 := hO4.trans ho5
  have hb5 := hb4.keeps ho5 (fun h => h)
  have hP4 := hb4.lt
  go_wp2_with fail
  refine (sopen_ok hd5 (by decide) (by omega) Bg8.e3 (M' := Bg8.N4) rfl Bg8.r3).mono ?_
  rintro e w6 ⟨t6, g6, ao6, cap6, rfl, -, -, -, -, -, -, -, ho6⟩
  have hO6 : Only NoBlock w w6 := hO5.andThen ho6 (by rintro i hi (e | e) <;> omega)
  have hb6 := hb5.keeps ho6 (by rintro (e | e) <;> omega)
  simp only [stCells, Bg8.s1, Bg8.en, List.length_singleton]
  clear hb4 hb5 hO4 hO5 ho5 ho6
  go_upto_region 5 with fail
  have hA6 := (Only.refl NoBlock w6).alloc (Obj.cells #[.int .u64 3, .int .i64 1, .int .u64 0, .int .u64 0, .int .u64 7, .string ByteArray.empty, .slice ao6 1 cap6] 42)
  have hb7 := Blk.made w6 #[.int .u64 3, .int .i64 1, .int .u64 0, .int .u64 0, .int .u64 7, .string ByteArray.empty, .slice ao6 1 cap6] 42
  have hb7' := hb6.keeps hA6 (fun h => h)
  have hO7 := hO6.trans hA6
  generalize w6.heap.size = P2 at hb7 ⊢
  generalize w6.alloc (Obj.cells #[.int .u64 3, .int .i64 1, .int .u64 0, .int .u64 0, .int .u64 7, .string ByteArray.empty, .slice ao6 1 cap6] 42) = w7 at hA6 hb7 hb7' hO7 ⊢
  have x1 : w7.cell? ⟨P, 1, none⟩ = some (.int .i64 (-1)) := by rw [hb7'.cell]; rfl
  have y0 : w7.cell? ⟨P2, 0, none⟩ = some (.int .u64 3) := by rw [hb7.cell]; rfl
  have y1 : w7.cell? ⟨P2, 1, none⟩ = some (.int .i64 1) := by rw [hb7.cell]; rfl
  have y6 : w7.cell? ⟨P2, 6, none⟩ = some (.slice ao6 1 cap6) := by rw [hb7.cell]; rfl
  go_wp2_with fail
  go_ret
  exact ⟨rfl, hO7⟩
end Go.Proofs.Ytekmjhenhgmpgaa

/- A disk of one file, in plain data: what the log's calls make of it. -/
namespace Go.Proofs.Ytekmjhenhgmpgaa
open Go.RowKit

/-- the greatest disk, with the file n and no other -/
def one (n : Int) (o : Option File) (fuel : Int) (off : Bool) : DM := ⟨fun x => if x = n then o else none, 1048576, fuel, off⟩

namespace One
theorem new (n : Int) : DM.new 1048576 = one n none (-1) false := by
  unfold DM.new one
  congr 1
  funext x
  split <;> rfl
theorem files (n : Int) (o : Option File) (F : Int) (b : Bool) : (one n o F b).files n = o := by simp [one]
theorem used {n : Int} (h0 : 0 ≤ n) (h1 : n < 16) (o : Option File) (F : Int) (b : Bool) : (one n o F b).used = fsz o := by
  obtain ⟨m, rfl⟩ := Int.eq_ofNat_of_zero_le h0
  have := tot_upd (F := fun _ => none) (G := (one m o F b).files) (x := m) (n := 16) (by omega) (fun i hi => by unfold one; simp only; rw [if_neg (by omega)])
  rw [files, tot_none] at this
  have e : fsz ((fun _ => none : Fs) (m : Int)) = 0 := rfl
  rw [e] at this
  unfold DM.used
  omega
theorem put (n : Int) (o : Option File) (F : Int) (b : Bool) (f : File) : (one n o F b).files.put n f = (one n (some f) F b).files := by
  funext x
  unfold Fs.put one
  simp only
  split <;> rfl
theorem setFuel (n : Int) (o : Option File) (F G : Int) (b : Bool) : (one n o F b).setFuel G = one n o (if G < -1 then -1 else G) b := rfl
theorem crash (n : Int) (o : Option File) (F : Int) (b : Bool) (keep : Int → Int) : (one n o F b).crash keep = one n (match o with | none => none | some f => leftFile f (keep n)) (-1) false := by
  unfold DM.crash one
  congr 1
  funext x
  simp only
  by_cases e : x = n
  · subst e
    rw [if_pos rfl, if_pos rfl]
    cases o <;> rfl
  · rw [if_neg e, if_neg e]
/-- the fuel behind a step -/
def dec (F : Int) : Int := if 0 < F then F - 1 else F
theorem steps {n : Int} {o : Option File} {F : Int} (hF : F ≠ 0) : (one n o F false).steps = true := by
  unfold DM.steps one
  simp [hF]
theorem stepped {n : Int} {o : Option File} {F : Int} (hF : F ≠ 0) : (one n o F false).stepped = one n o (dec F) false := by
  unfold DM.stepped one dec
  simp only [Bool.false_eq_true, if_false, if_neg hF]
  split <;> rfl
theorem steps0 {n : Int} {o : Option File} : (one n o 0 false).steps = false := by unfold DM.steps one; simp
theorem stepped0 {n : Int} {o : Option File} : (one n o 0 false).stepped = one n o 0 true := by unfold DM.stepped one; simp
theorem with_files {n : Int} {o : Option File} {F : Int} {b : Bool} (f : File) : { one n o F b with files := (one n o F b).files.put n f } = one n (some f) F b := by rw [put]; rfl
theorem with_files' {n : Int} {o : Option File} {F G : Int} {b c : Bool} (f : File) : { one n o F b with files := (one n o G c).files.put n f } = one n (some f) F b := by rw [put]; rfl

section
variable {n : Int} (h0 : 0 ≤ n) (h1 : n < 16)
include h0 h1
theorem append_go {A B s : ByteArray} {F : Int} (hF : F ≠ 0) (hr : A.size + B.size + s.size ≤ 1048576) :
    (one n (some (A, B)) F false).appendE n s = 0 ∧ (one n (some (A, B)) F false).append n s = one n (some (A, B ++ s)) (dec F) false := by
  have hu := used h0 h1 (some (A, B)) F false
  have hn : ¬ (n < 0 ∨ 16 ≤ n) := by omega
  have ho : (one n (some (A, B)) F false).off = false := rfl
  have hroom : ¬ ((one n (some (A, B)) F false).room < (((one n (some (A, B)) F false).used : Int) + s.size)) := by
    rw [hu]
    show ¬ ((1048576 : Int) < ((A.size + B.size : Nat) : Int) + s.size)
    omega
  constructor
  · unfold DM.appendE
    rw [if_neg hn, ho, if_neg (by decide), if_neg hroom, steps hF, if_neg (by decide)]
  · unfold DM.append
    rw [if_neg hn, ho, if_neg (by decide), if_neg hroom, steps hF, if_neg (by decide), stepped hF, files, with_files']
    rfl
theorem append_dry {A B s : ByteArray} (hr : A.size + B.size + s.size ≤ 1048576) :
    (one n (some (A, B)) 0 false).appendE n s = 10 ∧ (one n (some (A, B)) 0 false).append n s = one n (some (A, B)) 0 true := by
  have hu := used h0 h1 (some (A, B)) 0 false
  have hn : ¬ (n < 0 ∨ 16 ≤ n) := by omega
  have ho : (one n (some (A, B)) 0 false).off = false := rfl
  have hroom : ¬ ((one n (some (A, B)) 0 false).room < (((one n (some (A, B)) 0 false).used : Int) + s.size)) := by
    rw [hu]
    show ¬ ((1048576 : Int) < ((A.size + B.size : Nat) : Int) + s.size)
    omega
  constructor
  · unfold DM.appendE
    rw [if_neg hn, ho, if_neg (by decide), if_neg hroom, steps0, if_pos rfl]
  · unfold DM.append
    rw [if_neg hn, ho, if_neg (by decide), if_neg hroom, steps0, if_pos rfl, stepped0]
omit h0 h1 in
theorem sync_go {A B : ByteArray} {F : Int} (hF : F ≠ 0) :
    (one n (some (A, B)) F false).syncE n = 0 ∧ (one n (some (A, B)) F false).sync n = one n (some (A ++ B, ByteArray.empty)) (dec F) false := by
  have ho : (one n (some (A, B)) F false).off = false := rfl
  constructor
  · unfold DM.syncE
    rw [ho, if_neg (by decide), files, if_neg (by simp), steps hF, if_neg (by decide)]
  · unfold DM.sync
    rw [ho, if_neg (by decide), files, if_neg (by simp), steps hF, if_neg (by decide), stepped hF, with_files']
    rfl
omit h0 h1 in
theorem sync_dry {A B : ByteArray} :
    (one n (some (A, B)) 0 false).syncE n = 10 ∧ (one n (some (A, B)) 0 false).sync n = one n (some (A, B)) 0 true := by
  have ho : (one n (some (A, B)) 0 false).off = false := rfl
  constructor
  · unfold DM.syncE
    rw [ho, if_neg (by decide), files, if_neg (by simp), steps0, if_pos rfl]
  · unfold DM.sync
    rw [ho, if_neg (by decide), files, if_neg (by simp), steps0, if_pos rfl, stepped0]
theorem replace_go {o : Option File} {s : ByteArray} {F : Int} (hF : F ≠ 0) (hr : s.size ≤ 1048576) :
    (one n o F false).replaceE n s = 0 ∧ (one n o F false).replace n s = one n (some (s, ByteArray.empty)) (dec F) false := by
  have hu := used h0 h1 o F false
  have hn : ¬ (n < 0 ∨ 16 ≤ n) := by omega
  have ho : (one n o F false).off = false := rfl
  have hroom : ¬ ((one n o F false).room + (fsz ((one n o F false).files n) : Int) < (((one n o F false).used : Int) + s.size)) := by
    rw [hu, files]
    show ¬ ((1048576 : Int) + _ < _)
    omega
  constructor
  · unfold DM.replaceE
    rw [if_neg hn, ho, if_neg (by decide), if_neg hroom, steps hF, if_neg (by decide)]
  · unfold DM.replace
    rw [if_neg hn, ho, if_neg (by decide), if_neg hroom, steps hF, if_neg (by decide), stepped hF, with_files']
theorem replace_dry {o : Option File} {s : ByteArray} (hr : s.size ≤ 1048576) :
    (one n o 0 false).replaceE n s = 10 ∧ (one n o 0 false).replace n s = one n o 0 true := by
  have hu := used h0 h1 o 0 false
  have hn : ¬ (n < 0 ∨ 16 ≤ n) := by omega
  have ho : (one n o 0 false).off = false := rfl
  have hroom : ¬ ((one n o 0 false).room + (fsz ((one n o 0 false).files n) : Int) < (((one n o 0 false).used : Int) + s.size)) := by
    rw [hu, files]
    show ¬ ((1048576 : Int) + _ < _)
    omega
  constructor
  · unfold DM.replaceE
    rw [if_neg hn, ho, if_neg (by decide), if_neg hroom, steps0, if_pos rfl]
  · unfold DM.replace
    rw [if_neg hn, ho, if_neg (by decide), if_neg hroom, steps0, if_pos rfl, stepped0]
omit h0 h1 in
theorem read_some {A B : ByteArray} {F : Int} : (one n (some (A, B)) F false).readE n = 0 ∧ (one n (some (A, B)) F false).read n = A ++ B := by
  have ho : (one n (some (A, B)) F false).off = false := rfl
  constructor
  · unfold DM.readE
    rw [ho, if_neg (by decide), files, if_neg (by simp)]
  · unfold DM.read
    rw [ho, if_neg (by decide), files, if_neg (by simp)]
    rfl
omit h0 h1 in
theorem read_no {F : Int} : (one n none F false).readE n = 12 ∧ (one n none F false).read n = ByteArray.empty := by
  have ho : (one n none F false).off = false := rfl
  constructor
  · unfold DM.readE
    rw [ho, if_neg (by decide), files]
    rfl
  · unfold DM.read
    rw [ho, if_neg (by decide), files]
    rfl

/-! ### the log -/
theorem open_some {A B : ByteArray} (hr : A.size + B.size ≤ 1048576) :
    Wal.openE (one n (some (A, B)) (-1) false) n = 0 ∧ Wal.openM (one n (some (A, B)) (-1) false) n = one n (some ((A ++ B).extract 0 (Wal.whole (A ++ B)), ByteArray.empty)) (-1) false ∧ Wal.openL (one n (some (A, B)) (-1) false) n = Wal.recs (A ++ B) := by
  have hn : ¬ (n < 0 ∨ 16 ≤ n) := by omega
  obtain ⟨r1, r2⟩ := read_some (n := n) (A := A) (B := B) (F := -1)
  have hE0 : Wal.o0E (one n (some (A, B)) (-1) false) n = 0 := by unfold Wal.o0E; rw [r1, if_neg (by decide)]
  have hM0 : Wal.o0 (one n (some (A, B)) (-1) false) n = one n (some (A, B)) (-1) false := by unfold Wal.o0; rw [r1, if_neg (by decide)]
  have hwl := Wal.whole_le (A ++ B)
  have hsz : (A ++ B).size = A.size + B.size := ByteArray.size_append
  have hd : dec (-1) = -1 := rfl
  refine ⟨?_, ?_, ?_⟩
  · unfold Wal.openE
    rw [if_neg hn, hE0, if_pos rfl, hM0, r2]
    unfold Wal.o1E
    split
    · exact (replace_go h0 h1 (by decide) (by simp; omega)).1
    · exact (sync_go (by decide)).1
  · unfold Wal.openM
    rw [if_neg hn, hE0, if_pos rfl, hM0, r2]
    unfold Wal.o1
    split
    · rw [(replace_go h0 h1 (by decide) (by simp; omega)).2, hd]
    · rw [(sync_go (by decide)).2, hd]
      have e : Wal.whole (A ++ B) = (A ++ B).size := by omega
      rw [e, ByteArray.extract_zero_size]
  · unfold Wal.openL
    rw [r2]
theorem open_none :
    Wal.openE (one n none (-1) false) n = 0 ∧ Wal.openM (one n none (-1) false) n = one n (some (ByteArray.empty, ByteArray.empty)) (-1) false ∧ Wal.openL (one n none (-1) false) n = [] := by
  have hn : ¬ (n < 0 ∨ 16 ≤ n) := by omega
  obtain ⟨r1, r2⟩ := read_no (n := n) (F := -1)
  obtain ⟨p1, p2⟩ := replace_go h0 h1 (o := none) (s := ByteArray.empty) (F := -1) (by decide) (by decide)
  have hd : dec (-1) = -1 := rfl
  have hE0 : Wal.o0E (one n none (-1) false) n = 0 := by unfold Wal.o0E; rw [r1, if_pos rfl, p1]
  have hM0 : Wal.o0 (one n none (-1) false) n = one n (some (ByteArray.empty, ByteArray.empty)) (-1) false := by unfold Wal.o0; rw [r1, if_pos rfl, p2, hd]
  have hw : ¬ (Wal.whole ByteArray.empty < ByteArray.empty.size) := by have : ByteArray.empty.size = 0 := rfl; omega
  refine ⟨?_, ?_, ?_⟩
  · unfold Wal.openE
    rw [if_neg hn, hE0, if_pos rfl, hM0, r2]
    unfold Wal.o1E
    rw [if_neg hw]
    exact (sync_go (by decide)).1
  · unfold Wal.openM
    rw [if_neg hn, hE0, if_pos rfl, hM0, r2]
    unfold Wal.o1
    rw [if_neg hw, (sync_go (by decide)).2, hd]
    rfl
  · unfold Wal.openL
    rw [r2]
    rfl
theorem app_go {A B : ByteArray} {l : List ByteArray} {F : Int} (hl : Wal.long l = false) (hF0 : F ≠ 0) (hF1 : F ≠ 1) (hr : A.size + B.size + (Wal.text l).size ≤ 1048576) :
    Wal.appE (one n (some (A, B)) F false) n l = 0 ∧ Wal.app (one n (some (A, B)) F false) n l = one n (some (A ++ (B ++ Wal.text l), ByteArray.empty)) (dec (dec F)) false := by
  obtain ⟨a1, a2⟩ := append_go h0 h1 (A := A) (B := B) (s := Wal.text l) hF0 hr
  have hd : dec F ≠ 0 := by unfold dec; split <;> omega
  obtain ⟨s1, s2⟩ := sync_go (n := n) (A := A) (B := B ++ Wal.text l) hd
  constructor
  · unfold Wal.appE
    rw [hl, if_neg (by decide), a1, if_pos rfl, a2, s1]
  · unfold Wal.app
    rw [hl, if_neg (by decide), a1, if_pos rfl, a2, s2]
theorem app_half {A B : ByteArray} {l : List ByteArray} (hl : Wal.long l = false) (hr : A.size + B.size + (Wal.text l).size ≤ 1048576) :
    Wal.appE (one n (some (A, B)) 1 false) n l = 10 ∧ Wal.app (one n (some (A, B)) 1 false) n l = one n (some (A, B ++ Wal.text l)) 0 true := by
  obtain ⟨a1, a2⟩ := append_go h0 h1 (A := A) (B := B) (s := Wal.text l) (F := 1) (by decide) hr
  have hd : dec 1 = 0 := rfl
  rw [hd] at a2
  obtain ⟨s1, s2⟩ := sync_dry (n := n) (A := A) (B := B ++ Wal.text l)
  constructor
  · unfold Wal.appE
    rw [hl, if_neg (by decide), a1, if_pos rfl, a2, s1]
  · unfold Wal.app
    rw [hl, if_neg (by decide), a1, if_pos rfl, a2, s2]
theorem app_dry {A B : ByteArray} {l : List ByteArray} (hl : Wal.long l = false) (hr : A.size + B.size + (Wal.text l).size ≤ 1048576) :
    Wal.appE (one n (some (A, B)) 0 false) n l = 10 ∧ Wal.app (one n (some (A, B)) 0 false) n l = one n (some (A, B)) 0 true := by
  obtain ⟨a1, a2⟩ := append_dry h0 h1 (A := A) (B := B) (s := Wal.text l) hr
  constructor
  · unfold Wal.appE
    rw [hl, if_neg (by decide), a1, if_neg (by decide)]
  · unfold Wal.app
    rw [hl, if_neg (by decide), a1, if_neg (by decide), a2]
theorem anew_go {o : Option File} {l : List ByteArray} {F : Int} (hl : Wal.long l = false) (hF : F ≠ 0) (hr : (Wal.text l).size ≤ 1048576) :
    Wal.anewE (one n o F false) n l = 0 ∧ Wal.anew (one n o F false) n l = one n (some (Wal.text l, ByteArray.empty)) (dec F) false := by
  obtain ⟨a1, a2⟩ := replace_go h0 h1 (o := o) (s := Wal.text l) hF hr
  constructor
  · unfold Wal.anewE
    rw [hl, if_neg (by decide), a1]
  · unfold Wal.anew
    rw [hl, if_neg (by decide), a2]
theorem anew_dry {o : Option File} {l : List ByteArray} (hl : Wal.long l = false) (hr : (Wal.text l).size ≤ 1048576) :
    Wal.anewE (one n o 0 false) n l = 10 ∧ Wal.anew (one n o 0 false) n l = one n o 0 true := by
  obtain ⟨a1, a2⟩ := replace_dry h0 h1 (o := o) (s := Wal.text l) hr
  constructor
  · unfold Wal.anewE
    rw [hl, if_neg (by decide), a1]
  · unfold Wal.anew
    rw [hl, if_neg (by decide), a2]
end
end One
end Go.Proofs.Ytekmjhenhgmpgaa

/- The store in plain data: records are read back as they were written; what calls of a store make of one file. -/
namespace Go.Proofs.Ytekmjhenhgmpgaa
open Go.RowKit
set_option maxRecDepth 100000

namespace Pk
theorem numV_num {x : Nat} (h : x < 18446744073709551616) (t : List Int) : numV (num x ++ t) = x := by
  have := num_back h t false
  unfold RD.num at this
  simp only [Prod.mk.injEq] at this
  exact this.1
theorem numR_num {x : Nat} (h : x < 18446744073709551616) (t : List Int) (b : Bool) : numR ⟨num x ++ t, b⟩ = ⟨t, b⟩ := by
  have := num_back h t b
  unfold RD.num at this
  simp only [Prod.mk.injEq] at this
  exact this.2
theorem up_no {x limit : Nat} (h : ¬ x ≤ limit) (hx : x < 18446744073709551616) (t : List Int) (b : Bool) : (RD.mk (num x ++ t) b).up limit = (0, ⟨[], true⟩) := by
  unfold RD.up
  simp only
  rw [numV_num hx, if_neg h]
end Pk
namespace Sto
theorem bytes_append {a b : List Int} (ha : ∀ c ∈ a, 0 ≤ c ∧ c ≤ 255) (hb : ∀ c ∈ b, 0 ≤ c ∧ c ≤ 255) : ∀ c ∈ a ++ b, 0 ≤ c ∧ c ≤ 255 := by
  intro c hc
  rcases List.mem_append.1 hc with h | h
  · exact ha c h
  · exact hb c h
theorem hard_byte {h : Hrd} (ht : h.term < 18446744073709551616) : ∀ c ∈ Rc.hard h, 0 ≤ c ∧ c ≤ 255 := by
  unfold Rc.hard
  exact bytes_append (bytes_append (Pk.num_byte (by omega)) (Pk.num_byte ht)) (Pk.num_byte (u64_lt _))
theorem text_byte (d : ByteArray) (h : d.size < 18446744073709551616) : ∀ c ∈ Pk.text (nums d), 0 ≤ c ∧ c ≤ 255 := by
  unfold Pk.text
  exact bytes_append (Pk.num_byte (by rw [nums_length]; exact h)) (nums_byte d)
theorem ent_byte {e : Ent} (ht : e.term < 18446744073709551616) (hi : e.index < 18446744073709551616) (hd : e.data.size < 18446744073709551616) : ∀ c ∈ Rc.entry e, 0 ≤ c ∧ c ≤ 255 := by
  unfold Rc.entry
  exact bytes_append (bytes_append (bytes_append (bytes_append (Pk.num_byte (by omega)) (Pk.num_byte ht)) (Pk.num_byte hi)) (Pk.num_byte (u64_lt _))) (text_byte _ hd)
theorem cut_byte {i : Nat} (hi : i < 18446744073709551616) : ∀ c ∈ Rc.cut i, 0 ≤ c ∧ c ≤ 255 := by
  unfold Rc.cut
  exact bytes_append (Pk.num_byte (by omega)) (Pk.num_byte hi)
theorem snap_byte {s : Snp} (h : s.Wf) : ∀ c ∈ Rc.snap s, 0 ≤ c ∧ c ≤ 255 := by
  unfold Rc.snap
  have := h.data
  exact bytes_append (bytes_append (bytes_append (bytes_append (Pk.num_byte (by omega)) (Pk.num_byte h.index)) (Pk.num_byte h.term)) (Pk.num_byte h.config)) (text_byte _ (by omega))

/-- a vote is read back, if it may be one -/
theorem take_hard {s : St} {h : Hrd} (ht : h.term < 18446744073709551616) (hv : -9223372036854775808 ≤ h.vote ∧ h.vote ≤ 9223372036854775807) :
    take s (hardB h) = if -1 ≤ h.vote ∧ h.vote < 7 then some ⟨h, s.snap, s.es⟩ else none := by
  have hb := hard_byte ht
  have hx : u64 (h.vote + 1) < 18446744073709551616 := u64_lt _
  have hn : nums (hardB h) = Pk.num 1 ++ (Pk.num h.term ++ (Pk.num (u64 (h.vote + 1)) ++ [])) := by
    unfold hardB; rw [nums_textOf hb]; unfold Rc.hard; simp only [List.append_assoc, List.append_nil]
  have hk : kind (hardB h) = 1 := by unfold kind; rw [hn, Pk.numV_num (by omega)]
  have hr : r0 (hardB h) = ⟨Pk.num h.term ++ (Pk.num (u64 (h.vote + 1)) ++ []), false⟩ := by unfold r0; rw [hn, Pk.numR_num (by omega)]
  have h1 : Pk.numR ⟨Pk.num h.term ++ (Pk.num (u64 (h.vote + 1)) ++ []), false⟩ = ⟨Pk.num (u64 (h.vote + 1)) ++ [], false⟩ := Pk.numR_num ht _ _
  have h2 : Pk.numV (Pk.num h.term ++ (Pk.num (u64 (h.vote + 1)) ++ [])) = h.term := Pk.numV_num ht _
  unfold take takeK
  rw [hk, if_pos rfl, hr]
  unfold hardR hardV
  rw [h1]
  simp only [h2]
  by_cases hle : u64 (h.vote + 1) ≤ 7
  · have hc : -1 ≤ h.vote ∧ h.vote < 7 := by unfold u64 at hle; omega
    rw [Pk.up_back hle (by omega), if_pos hc]
    have e : ((u64 (h.vote + 1) : Nat) : Int) - 1 = h.vote := by unfold u64; omega
    rw [if_pos (show (Pk.RD.mk [] false).done = true from rfl)]
    show some (⟨⟨h.term, ((u64 (h.vote + 1) : Nat) : Int) - 1⟩, s.snap, s.es⟩ : St) = _
    rw [e]
  · have hc : ¬ (-1 ≤ h.vote ∧ h.vote < 7) := by unfold u64 at hle; omega
    rw [Pk.up_no hle hx, if_neg hc, if_neg (by decide)]
/-- an entry is read back -/
theorem take_ent {s : St} {e : Ent} (ht : e.term < 18446744073709551616) (hi : e.index < 18446744073709551616) (hk0 : 0 ≤ e.kind) (hk2 : e.kind ≤ 2) (hd : e.data.size ≤ 65536) :
    take s (entB e) = some ⟨s.hard, s.snap, s.es ++ [e]⟩ := by
  have hb := ent_byte ht hi (by omega)
  have hu : u64 e.kind = e.kind.toNat := by unfold u64; omega
  have hn : nums (entB e) = Pk.num 2 ++ (Pk.num e.term ++ (Pk.num e.index ++ (Pk.num (u64 e.kind) ++ (Pk.text (nums e.data) ++ [])))) := by
    unfold entB; rw [nums_textOf hb]; unfold Rc.entry; simp only [List.append_assoc, List.append_nil]
  have hk : kind (entB e) = 2 := by unfold kind; rw [hn, Pk.numV_num (by omega)]
  have hr : r0 (entB e) = ⟨Pk.num e.term ++ (Pk.num e.index ++ (Pk.num (u64 e.kind) ++ (Pk.text (nums e.data) ++ []))), false⟩ := by unfold r0; rw [hn, Pk.numR_num (by omega)]
  have h1 : Pk.numR ⟨Pk.num e.term ++ (Pk.num e.index ++ (Pk.num (u64 e.kind) ++ (Pk.text (nums e.data) ++ []))), false⟩ = ⟨Pk.num e.index ++ (Pk.num (u64 e.kind) ++ (Pk.text (nums e.data) ++ [])), false⟩ := Pk.numR_num ht _ _
  have h2 : Pk.numR ⟨Pk.num e.index ++ (Pk.num (u64 e.kind) ++ (Pk.text (nums e.data) ++ [])), false⟩ = ⟨Pk.num (u64 e.kind) ++ (Pk.text (nums e.data) ++ []), false⟩ := Pk.numR_num hi _ _
  have h3 : (Pk.RD.mk (Pk.num (u64 e.kind) ++ (Pk.text (nums e.data) ++ [])) false).up 2 = (u64 e.kind, ⟨Pk.text (nums e.data) ++ [], false⟩) := Pk.up_back (by omega) (by omega) _ _
  have h4 : (Pk.RD.mk (Pk.text (nums e.data) ++ []) false).text 65536 = (nums e.data, ⟨[], false⟩) := Pk.text_back (by rw [nums_length]; exact hd) (by omega) _ _
  unfold take takeK
  rw [hk, if_neg (by decide), if_pos rfl, hr]
  have hR : entR ⟨Pk.num e.term ++ (Pk.num e.index ++ (Pk.num (u64 e.kind) ++ (Pk.text (nums e.data) ++ []))), false⟩ = ⟨Pk.text (nums e.data) ++ [], false⟩ := by unfold entR; rw [h1, h2, h3]
  have hV : entV ⟨Pk.num e.term ++ (Pk.num e.index ++ (Pk.num (u64 e.kind) ++ (Pk.text (nums e.data) ++ []))), false⟩ = e := by
    unfold entV
    rw [hR, h4, h1, h2, h3]
    simp only
    rw [Pk.numV_num ht, Pk.numV_num hi, textOf_nums]
    obtain ⟨a, b, c, d⟩ := e
    simp only at hu hk0 ⊢
    have : ((u64 c : Nat) : Int) = c := by omega
    rw [this]
  rw [hR, h4, hV]
  rfl
/-- a snapshot is read back -/
theorem take_snap {s : St} {p : Snp} (hp : p.Wf) (hd : p.data.size ≤ 65536) : take s (snapB p) = some ⟨s.hard, p, []⟩ := by
  have hb := snap_byte hp
  have hn : nums (snapB p) = Pk.num 4 ++ (Pk.num p.index ++ (Pk.num p.term ++ (Pk.num p.config ++ (Pk.text (nums p.data) ++ [])))) := by
    unfold snapB; rw [nums_textOf hb]; unfold Rc.snap; simp only [List.append_assoc, List.append_nil]
  have hk : kind (snapB p) = 4 := by unfold kind; rw [hn, Pk.numV_num (by omega)]
  have hr : r0 (snapB p) = ⟨Pk.num p.index ++ (Pk.num p.term ++ (Pk.num p.config ++ (Pk.text (nums p.data) ++ []))), false⟩ := by unfold r0; rw [hn, Pk.numR_num (by omega)]
  have h1 : Pk.numR ⟨Pk.num p.index ++ (Pk.num p.term ++ (Pk.num p.config ++ (Pk.text (nums p.data) ++ []))), false⟩ = ⟨Pk.num p.term ++ (Pk.num p.config ++ (Pk.text (nums p.data) ++ [])), false⟩ := Pk.numR_num hp.index _ _
  have h2 : Pk.numR ⟨Pk.num p.term ++ (Pk.num p.config ++ (Pk.text (nums p.data) ++ [])), false⟩ = ⟨Pk.num p.config ++ (Pk.text (nums p.data) ++ []), false⟩ := Pk.numR_num hp.term _ _
  have h3 : Pk.numR ⟨Pk.num p.config ++ (Pk.text (nums p.data) ++ []), false⟩ = ⟨Pk.text (nums p.data) ++ [], false⟩ := Pk.numR_num hp.config _ _
  have h4 : (Pk.RD.mk (Pk.text (nums p.data) ++ []) false).text 65536 = (nums p.data, ⟨[], false⟩) := Pk.text_back (by rw [nums_length]; exact hd) (by omega) _ _
  unfold take takeK
  rw [hk, if_neg (by decide), if_neg (by decide), if_neg (by decide), if_pos rfl, hr]
  have hV : snapV ⟨Pk.num p.index ++ (Pk.num p.term ++ (Pk.num p.config ++ (Pk.text (nums p.data) ++ []))), false⟩ = p := by
    unfold snapV
    rw [h1, h2, h3, h4]
    simp only
    rw [Pk.numV_num hp.index, Pk.numV_num hp.term, Pk.numV_num hp.config, textOf_nums]
  rw [h1, h2, h3, h4, hV]
  rfl
theorem said_append : ∀ (a b : List ByteArray) (s : St), said s (a ++ b) = (said s a).bind fun s' => said s' b
  | [], _, _ => rfl
  | c :: a, b, s => by
    show (match take s c with | none => none | some s' => said s' (a ++ b)) = (match take s c with | none => none | some s' => said s' a).bind fun s' => said s' b
    cases h : take s c with
    | none => rfl
    | some s' => exact said_append a b s'
def rb (s : St) : Bool := rightB s.hard s.snap s.es
theorem right_ents {s : St} (h : rb s = true) : ∀ e ∈ s.es, 0 ≤ e.kind ∧ e.kind ≤ 2 ∧ e.data.size ≤ 32768 := by
  unfold rb rightB Rl.newOk at h
  simp only [Bool.and_eq_true] at h
  have hc := h.1.2
  generalize s.snap.index = i at hc
  generalize s.snap.term = t at hc
  generalize s.es = l at hc ⊢
  clear h
  induction l generalizing i t with
  | nil => intro e he; cases he
  | cons x r ih =>
    unfold Rl.chain at hc
    rw [Bool.and_eq_true] at hc
    intro e he
    rcases List.mem_cons.1 he with rfl | he
    · have h1 := hc.1
      unfold Rl.sound Rl.plainOk at h1
      simp only [Bool.and_eq_true, decide_eq_true_eq] at h1
      exact ⟨h1.1.2.2.2.1, h1.1.2.2.2.2.1, h1.1.2.2.2.2.2⟩
    · exact ih x.index x.term hc.2 e he
theorem right_vote {s : St} (h : rb s = true) : -1 ≤ s.hard.vote ∧ s.hard.vote < 7 := by
  unfold rb rightB at h
  simp only [Bool.and_eq_true, decide_eq_true_eq] at h
  exact h.2
theorem said_ents : ∀ (l : List Ent) (s : St), (∀ e ∈ l, e.term < 18446744073709551616 ∧ e.index < 18446744073709551616 ∧ 0 ≤ e.kind ∧ e.kind ≤ 2 ∧ e.data.size ≤ 65536) → said s (l.map entB) = some ⟨s.hard, s.snap, s.es ++ l⟩
  | [], s, _ => by rw [List.map_nil, List.append_nil]; rfl
  | e :: l, s, h => by
    obtain ⟨h1, h2, h3, h4, h5⟩ := h e (by simp)
    rw [List.map_cons]
    unfold said
    rw [take_ent h1 h2 h3 h4 h5]
    show said _ _ = _
    rw [said_ents l _ (fun x hx => h x (by simp [hx]))]
    simp
/-- all of a state, read back -/
theorem said_anew {s0 s : St} (hh : s.hard.Wf) (hp : s.snap.Wf) (he : ∀ e ∈ s.es, e.Wf) (hok : anewOk s = true) : said s0 (anewR s) = some s := by
  unfold anewOk at hok
  rw [Bool.and_eq_true, decide_eq_true_eq] at hok
  have hr : rb s = true := hok.1
  have hv := right_vote hr
  have hes := right_ents hr
  unfold anewR
  unfold said
  rw [take_hard hh.term (wf_both hh.vote), if_pos hv]
  show said _ _ = _
  unfold said
  rw [take_snap hp (by omega)]
  show said _ _ = _
  rw [said_ents _ _ (fun e h => ⟨(he e h).term, (he e h).index, (hes e h).1, (hes e h).2.1, by have := (hes e h).2.2; omega⟩)]
  rfl
end Sto
end Go.Proofs.Ytekmjhenhgmpgaa

/- Arguments as the walks take them: lists of texts, lists of lists of texts, pairs of numbers; with the bound that the form lays on all that is read. -/
namespace Go.Proofs.Ytekmjhenhgmpgaa
open Go.RowKit Go.Maps Go.ChangeShapes Go.WideShapes Go.Deep
set_option maxRecDepth 100000

/-- texts that came in: read, none longer than what can be -/
structure TextsIn (w : World) (ao : Option Addr) (l : List ByteArray) : Prop where
  row : StrsIn w ao l
  few : l.length ≤ 8796093022208
  small : ∀ i, i < l.length → (l.getD i ByteArray.empty).size ≤ 140737488351232
theorem TextsIn.keeps {S : Nat → Prop} {w w' : World} {ao : Option Addr} {l : List ByteArray} (h : TextsIn w ao l) (ho : Only S w w') (hs : ∀ a, ao = some a → ¬ S a.block) : TextsIn w' ao l := ⟨h.row.keeps ho hs, h.few, h.small⟩

namespace Op
theorem u_string : Try.prog.underlying 9 = some .string := by kernel_rfl
theorem u_int : Try.prog.underlying 3 = some (.int .i64) := by kernel_rfl
theorem c_string : Try.prog.cellsOf 9 = 1 := by kernel_rfl
theorem c_int : Try.prog.cellsOf 3 = 1 := by kernel_rfl
theorem b_string : Try.prog.bytesOf 9 = 16 := by kernel_rfl
theorem add_none (b off j : Nat) : (⟨b, off, none⟩ : Addr).add j = ⟨b, off + j, none⟩ := by unfold Addr.add; split <;> simp_all
theorem weights_all {H : Type} {P : Program} {e : TypeId} {d : DataW H} {n : Nat} : ∀ {l : List (DataW H)}, d ∈ l → n ∈ d.weights P e → n ∈ DataW.weightsAll P e l
  | [], h, _ => by cases h
  | y :: r, h, hn => by
    unfold DataW.weightsAll
    rcases List.mem_cons.1 h with rfl | h
    · exact List.mem_append_left _ hn
    · exact List.mem_append_right _ (weights_all h hn)
end Op

section
variable {H : Type} {enc : TypeId × Value → H} {w : World}

theorem open_texts_cs {fuel : Nat} {v : Value} {x : DataW H × List MemPlace} (h : DataW.trod enc Try.prog w 0 (fun _ => true) true fuel 22 [v] = some x) (hs : ∀ n ∈ x.1.weights Try.prog 22, n ≤ reachBytes) :
    ∃ (l : List ByteArray) (ao : Option Addr) (cap : Nat), v = .slice ao l.length cap ∧ TextsIn w ao l ∧ l.length ≤ cap ∧ cap ≤ maxLen := by
  rcases open_strings St.u_strings Op.u_string Op.c_string h with ⟨hcs, _⟩ | ⟨a, len, cap, ss, hcs, _, hl, hm, hz, hx, hcell, _⟩
  · simp at hcs
    subst hcs
    exact ⟨[], none, 0, rfl, ⟨StrsIn.none w, by simp, fun i hi => by simp at hi⟩, by simp, by simp⟩
  · simp at hcs
    subst hcs
    have hz' : ss.length = cap := by simpa using hz
    have hlen : (ss.take len).length = len := by rw [List.length_take]; omega
    rw [hx] at hs
    simp only [DataW.weights, St.u_strings, Op.b_string] at hs
    have hs0 := hs _ (List.mem_cons_self ..)
    simp only [strs, List.length_map, hlen, List.length_drop, reachBytes] at hs0
    refine ⟨ss.take len, some a, cap, by rw [hlen], ⟨⟨by rw [hlen]; omega, fun i hi => ?_⟩, by rw [hlen]; omega, fun i hi => ?_⟩, by omega, hm⟩
    · have hi' : i < len := by omega
      have hc := hcell i (by omega)
      have hc0 := hcell 0 (by omega)
      obtain ⟨b, off, spot⟩ := a
      have hspot : spot = none := by simpa [Addr.add] using World.cell?_spot hc0
      subst hspot
      refine ⟨b, off, rfl, ?_⟩
      have e : (ss.take len).getD i ByteArray.empty = ss.getD i ByteArray.empty := by simp [List.getD, List.getElem?_take, hi']
      rw [e, ← Op.add_none]
      exact hc
    · rw [List.getD_eq_getElem?_getD, List.getElem?_eq_getElem hi, Option.getD_some]
      have hm2 : (ss.take len)[i] ∈ ss.take len := List.getElem_mem hi
      have hd : (.lit (.string ((ss.take len)[i]).data.toList) : DataW H) ∈ strs (ss.take len) := List.mem_map.2 ⟨_, hm2, rfl⟩
      have := hs _ (List.mem_cons_of_mem _ (List.mem_append_left _ (Op.weights_all (P := Try.prog) (e := 9) (n := ((ss.take len)[i]).data.toList.length) hd (by simp [DataW.weights]))))
      simp only [reachBytes] at this
      simpa using this

theorem open_texts {v : Value} {d : DataW H} {p : List MemPlace} {r : Reach} {base : Nat} (hv : Value.okWide Try.prog w r base 22 v) (h : DataW.Trod enc Try.prog w 0 (fun _ => true) true 22 v d p) (hs : ∀ n ∈ d.weights Try.prog 22, n ≤ reachBytes) :
    ∃ x : List ByteArray × Option Addr × Nat, v = .slice x.2.1 x.1.length x.2.2 ∧ TextsIn w x.2.1 x.1 ∧ x.1.length ≤ x.2.2 ∧ x.2.2 ≤ maxLen := by
  obtain ⟨a, len, cap, rfl⟩ := okWide_slice St.u_strings hv
  obtain ⟨fuel, hf⟩ := h
  obtain ⟨l, ao, cap', e, hi⟩ := open_texts_cs (by simpa [Value.cells] using hf) hs
  exact ⟨⟨l, ao, cap'⟩, e, hi⟩

/-- lists of texts that came in -/
structure RowsIn (w : World) (ao : Option Addr) (L : List (List ByteArray × Option Addr × Nat)) : Prop where
  len : L.length ≤ maxLen
  cell : ∀ i, i < L.length → ∃ b off, ao = some ⟨b, off, none⟩ ∧ w.cell? ⟨b, off + i, none⟩ = some (.slice (L.getD i ([], none, 0)).2.1 (L.getD i ([], none, 0)).1.length (L.getD i ([], none, 0)).2.2)
  texts : ∀ i, i < L.length → TextsIn w (L.getD i ([], none, 0)).2.1 (L.getD i ([], none, 0)).1
theorem RowsIn.keeps {w w' : World} {ao : Option Addr} {L : List (List ByteArray × Option Addr × Nat)} (h : RowsIn w ao L) (ho : Only NoBlock w w') : RowsIn w' ao L :=
  ⟨h.len, fun i hi => by
    obtain ⟨b, off, e, hc⟩ := h.cell i hi
    refine ⟨b, off, e, ?_⟩
    have hlt : b < w.heap.size := World.block_lt_of_cell? w _ hc
    have hb := ho.block b hlt (fun h => h)
    rw [← hc]
    simp [World.cell?, hb], fun i hi => (h.texts i hi).keeps ho (fun _ _ h => h)⟩
end

end Go.Proofs.Ytekmjhenhgmpgaa

/- What the document's stuffing and frames answer, in plain lists: pieces taken off one by one, and a frame that is tried. -/
namespace Go.Proofs.Ytekmjhenhgmpgaa

namespace Stuff
theorem zero_take (b : List Int) : ∀ x ∈ b.take (zero b), x ≠ 0 := Wal.take_zero_nonzero b
theorem take_nonzero {b : List Int} {n : Nat} (h : n ≤ zero b) : ∀ x ∈ b.take n, x ≠ 0 := by
  intro x hx
  refine zero_take b x ?_
  have e : b.take n = (b.take (zero b)).take n := by rw [List.take_take, Nat.min_eq_left h]
  rw [e] at hx
  exact List.mem_of_mem_take hx
theorem zero_split {b : List Int} (h : zero b < b.length) : b.drop (zero b) = 0 :: b.drop (zero b + 1) := by
  have e := Wal.zero_split h
  generalize zero b = n at h e
  rw [List.drop_eq_getElem_cons h]
  congr 1
  have h2 : (b.take n).length = n := by rw [List.length_take]; omega
  have : b[n]? = some 0 := by
    conv => lhs; rw [e]
    rw [List.getElem?_append_right (by omega), h2, Nat.sub_self]
    rfl
  rw [List.getElem?_eq_getElem h] at this
  exact Option.some.inj this
/-- a full piece -/
theorem enc_full {b : List Int} (h : 254 ≤ zero b) : enc b = 255 :: b.take 254 ++ enc (b.drop 254) := by
  have hl := zero_le b
  have e := encP_full (b.take 254) (b.drop 254) (take_nonzero h) (by rw [List.length_take]; omega)
  rw [List.take_append_drop] at e
  exact e
/-- the last piece -/
theorem enc_last {b : List Int} (h : zero b < 254) (he : zero b = b.length) : enc b = ((b.length : Int) + 1) :: b := by
  have e := encP_run b [] [] (by have := zero_take b; rw [he, List.take_length] at this; exact this) (by simp; omega)
  rw [List.append_nil] at e
  unfold enc
  rw [e, List.nil_append, encP]
/-- a piece ahead of a zero -/
theorem enc_piece {b : List Int} (h : zero b < 254) (he : zero b < b.length) : enc b = ((zero b : Nat) + 1 : Int) :: b.take (zero b) ++ enc (b.drop (zero b + 1)) := by
  have e := encP_run (b.take (zero b)) [] (b.drop (zero b)) (zero_take b) (by rw [List.length_take]; simp; omega)
  rw [List.take_append_drop, zero_split he, List.nil_append] at e
  unfold enc
  rw [e, encP, if_pos rfl, List.length_take]
  have hm : min (zero b) b.length = zero b := by omega
  rw [hm]

/-- what pieces stand for, behind out; sep: a zero stands ahead of the next one -/
def plP : Nat → Bool → List Int → List Int → Option (List Int)
  | 0, _, _, _ => none
  | _ + 1, _, out, [] => some out
  | k + 1, sep, out, n :: t => if n ≤ 0 ∨ (t.length : Int) + 1 < n then none
    else if zero (t.take (n.toNat - 1)) < n.toNat - 1 then none
    else plP k (decide (n ≠ 255)) ((if sep then out ++ [0] else out) ++ t.take (n.toNat - 1)) (t.drop (n.toNat - 1))
theorem zero_all {b : List Int} (h : ∀ x ∈ b, x ≠ 0) : zero b = b.length := Wal.zero_none h
theorem plP_piece {k : Nat} {sep : Bool} {out cur rest : List Int} (hc : ∀ x ∈ cur, x ≠ 0) :
    plP (k + 1) sep out (((cur.length : Int) + 1) :: cur ++ rest) = plP k (decide ((cur.length : Int) + 1 ≠ 255)) ((if sep then out ++ [0] else out) ++ cur) rest := by
  rw [List.cons_append, plP, if_neg (by simp; omega)]
  have e : ((cur.length : Int) + 1).toNat - 1 = cur.length := by omega
  rw [e, List.take_left, List.drop_left, if_neg (by rw [zero_all hc]; omega)]
theorem plP_encP (b : List Int) : ∀ (cur out : List Int) (sep : Bool) (k : Nat), (∀ x ∈ cur, x ≠ 0) → cur.length < 254 → (encP cur b).length < k → plP k sep out (encP cur b) = some ((if sep then out ++ [0] else out) ++ cur ++ b) := by
  induction b with
  | nil =>
    intro cur out sep k hc hl hk
    unfold encP at hk ⊢
    obtain ⟨k, rfl⟩ : ∃ j, k = j + 2 := ⟨k - 2, by simp at hk; omega⟩
    have := plP_piece (k := k + 1) (sep := sep) (out := out) (rest := []) hc
    rw [List.append_nil] at this
    rw [this, plP, List.append_nil]
  | cons c t ih =>
    intro cur out sep k hc hl hk
    unfold encP at hk ⊢
    by_cases h0 : c = 0
    · rw [if_pos h0] at hk ⊢
      obtain ⟨k, rfl⟩ : ∃ j, k = j + 1 := ⟨k - 1, by simp at hk; omega⟩
      rw [plP_piece hc, ih [] _ _ k (by simp) (by simp) (by simp at hk; omega)]
      have hd : decide ((cur.length : Int) + 1 ≠ 255) = true := by simp; omega
      rw [hd, if_pos rfl, h0]
      simp
    · rw [if_neg h0] at hk ⊢
      by_cases hf : cur.length + 1 = 254
      · rw [if_pos hf] at hk ⊢
        obtain ⟨k, rfl⟩ : ∃ j, k = j + 1 := ⟨k - 1, by simp at hk; omega⟩
        have hcc : ∀ x ∈ cur ++ [c], x ≠ 0 := by
          intro x hx
          rcases List.mem_append.1 hx with hx | hx
          · exact hc x hx
          · simp at hx; subst hx; exact h0
        have hlc : (cur ++ [c]).length = 254 := by simp; omega
        have := plP_piece (k := k) (sep := sep) (out := out) (rest := encP [] t) hcc
        rw [hlc] at this
        have e : ((254 : Nat) : Int) + 1 = 255 := by omega
        rw [e] at this
        rw [this, ih [] _ _ k (by simp) (by simp) (by simp at hk; omega)]
        simp
      · rw [if_neg hf] at hk ⊢
        have hcc : ∀ x ∈ cur ++ [c], x ≠ 0 := by
          intro x hx
          rcases List.mem_append.1 hx with hx | hx
          · exact hc x hx
          · simp at hx; subst hx; exact h0
        rw [ih (cur ++ [c]) out sep k hcc (by simp; omega) hk]
        simp
/-- pieces, and whether there are any -/
def pl (b : List Int) : Option (List Int) := if b = [] then none else plP (b.length + 1) false [] b
theorem pl_enc (x : List Int) : pl (enc x) = some x := by
  unfold pl
  have h := enc_pos x
  rw [if_neg (by intro e; rw [e] at h; simp at h)]
  unfold enc
  rw [plP_encP x [] [] false _ (by simp) (by simp) (by omega)]
  simp
theorem dec_nil : dec [] = none := rfl
/-- the document's taking back is the plain one -/
theorem dec_pl {b : List Int} (hb : ∀ c ∈ b, c ≤ 255) : dec b = match pl b with | none => none | some x => if enc x = b then some x else none := by
  cases hd : dec b with
  | none =>
    cases hp : pl b with
    | none => rfl
    | some x =>
      simp only
      rw [if_neg]
      intro e
      rw [← e, dec_enc] at hd
      cases hd
  | some x =>
    have e := enc_dec hb hd
    rw [← e, pl_enc]
    simp
end Stuff

namespace Wal
/-- what the document's first tries -/
theorem first_try {r : List Int} (hr : Byte r) : first r =
    if Stuff.zero r = r.length then none else
    match Stuff.dec (r.take (Stuff.zero r)) with
    | none => none
    | some b => if b.length < 4 ∨ 65540 < b.length then none else if frame (body b) = r.take (Stuff.zero r + 1) then some (body b, Stuff.zero r + 1) else none := by
  by_cases hz : Stuff.zero r = r.length
  · rw [if_pos hz]; unfold first; rw [if_pos hz]
  · rw [if_neg hz]
    have hzl := Stuff.zero_le r
    cases hd : Stuff.dec (r.take (Stuff.zero r)) with
    | none => unfold first; rw [if_neg hz, hd]
    | some b =>
      simp only
      have henc := Stuff.enc_dec (fun c hc => (hr c (List.mem_of_mem_take hc)).2) hd
      have hfst : first r = match rec b with | none => none | some x => some (x, Stuff.zero r + 1) := by unfold first; rw [if_neg hz, hd]; rfl
      have hz1 : r.take (Stuff.zero r + 1) = r.take (Stuff.zero r) ++ [0] := by
        have e := zero_split (r := r) (by omega)
        generalize Stuff.zero r = n at hz hzl e
        have h2 : (r.take n).length = n := by rw [List.length_take]; omega
        conv => lhs; rw [e]
        rw [List.take_append, h2]
        have : n + 1 - n = 1 := by omega
        rw [this, List.take_of_length_le (by omega)]
        rfl
      have hfr : frame (body b) = r.take (Stuff.zero r + 1) ↔ raw (body b) = b := by
        rw [hz1, ← henc]
        unfold frame
        rw [List.append_left_inj]
        exact ⟨fun h => Stuff.enc_inj h, fun h => by rw [h]⟩
      rw [hfst]
      by_cases hb : b.length < 4 ∨ 65540 < b.length
      · rw [if_pos hb]
        have : rec b = none := by
          unfold rec
          rcases hb with h | h
          · rw [if_pos h]
          · rw [if_neg (by omega), if_neg]
            intro g
            have := g.2
            unfold body at this
            rw [List.length_take] at this
            omega
        rw [this]
      · rw [if_neg hb]
        by_cases hf : frame (body b) = r.take (Stuff.zero r + 1)
        · rw [if_pos hf]
          have : rec b = some (body b) := rec_iff.2 ⟨(hfr.1 hf).symm, by unfold body; rw [List.length_take]; omega⟩
          rw [this]
        · rw [if_neg hf]
          have : rec b = none := by
            cases hrec : rec b with
            | none => rfl
            | some x =>
              exfalso
              obtain ⟨e, _⟩ := rec_iff.1 hrec
              apply hf
              rw [hfr]
              have hx : body b = x := by
                rw [e]; unfold body raw
                simp [be4]
              rw [hx, ← e]
          rw [this]
end Wal
end Go.Proofs.Ytekmjhenhgmpgaa

/- What the log's statements lean on: the anchor holds; lists of texts are compared; texts that are not too long in all. -/
namespace Go.Proofs.Ytekmjhenhgmpgaa
open Go.RowKit

theorem open_ok {w : World} {d mb : Nat} {M : DM} {n : Int} (h : DiskAt w d mb M) (hw : (Lit.int .i64 n).wf = true) (hE : Wal.openE M n = 0) {M' : DM} (hM : Wal.openM M n = M') {l : List ByteArray} (hL : Wal.openL M n = l) :
    Calls Try.prog 37 #[.pointer (some ⟨d, 0, none⟩), .int .i64 n] w fun e w' => ∃ g ao cap, e = .returned (.tuple #[.pointer (some ⟨g, 0, none⟩), .slice ao l.length cap, .int .i64 0]) ∧ w.heap.size ≤ g ∧ LogAt w' g d n ∧ StrsIn w' ao l ∧
      (∀ a, ao = some a → w.heap.size ≤ a.block) ∧ DiskAt w' d mb M' ∧ Only (fun k => k = d ∨ k = mb) w w' := by
  subst hM; subst hL
  refine (open_at w d mb M n h hw).mono ?_
  rintro e w' ⟨p, v, rfl, hd, ho, h1 | h1⟩
  · obtain ⟨_, g, rfl, hg, hl, hv⟩ := h1
    have hlt := World.ownsRow.lt hv
    obtain ⟨ao, cap, rfl, hv, _⟩ := hv.isIn
    exact ⟨g, ao, cap, by rw [hE], hg, hl, hv, fun a e => by subst e; exact (hlt _ rfl).1, hd, ho⟩
  · exact absurd hE h1.1
theorem open_no {w : World} {d mb : Nat} {M : DM} {n : Int} (h : DiskAt w d mb M) (hw : (Lit.int .i64 n).wf = true) {k : Int} (hE : Wal.openE M n = k) (hk : k ≠ 0) {M' : DM} (hM : Wal.openM M n = M') :
    Calls Try.prog 37 #[.pointer (some ⟨d, 0, none⟩), .int .i64 n] w fun e w' => e = .returned (.tuple #[.pointer none, .slice none 0 0, .int .i64 k]) ∧ DiskAt w' d mb M' ∧ Only (fun k => k = d ∨ k = mb) w w' := by
  subst hM; subst hE
  refine (open_at w d mb M n h hw).mono ?_
  rintro e w' ⟨p, v, rfl, hd, ho, h1 | h1⟩
  · exact absurd h1.1 hk
  · obtain ⟨_, rfl, rfl⟩ := h1
    exact ⟨rfl, hd, ho⟩
theorem log_append_as {w : World} {g d mb : Nat} {M : DM} {n : Int} {ao : Option Addr} {cap len : Nat} {l : List ByteArray} (h : DiskAt w d mb M) (hg : LogAt w g d n) (hw : (Lit.int .i64 n).wf = true) (hl : StrsIn w ao l) (hlen : l.length = len) (hsz : (Wal.text l).size ≤ 1000000000)
    {k : Int} (hk : Wal.appE M n l = k) {M' : DM} (hM : Wal.app M n l = M') :
    Calls Try.prog 49 #[.pointer (some ⟨g, 0, none⟩), .slice ao len cap] w (LogEnd k M' d mb w) := by
  subst hk; subst hM; subst hlen; exact log_append_at w g d mb M n ao cap l h hg hw hl hsz
theorem log_anew_as {w : World} {g d mb : Nat} {M : DM} {n : Int} {ao : Option Addr} {cap len : Nat} {l : List ByteArray} (h : DiskAt w d mb M) (hg : LogAt w g d n) (hw : (Lit.int .i64 n).wf = true) (hl : StrsIn w ao l) (hlen : l.length = len) (hsz : (Wal.text l).size ≤ 1000000000)
    {k : Int} (hk : Wal.anewE M n l = k) {M' : DM} (hM : Wal.anew M n l = M') :
    Calls Try.prog 52 #[.pointer (some ⟨g, 0, none⟩), .slice ao len cap] w (LogEnd k M' d mb w) := by
  subst hk; subst hM; subst hlen; exact log_anew_at w g d mb M n ao cap l h hg hw hl hsz
theorem strs_one (w : World) (x : ByteArray) (t : TypeId) : StrsIn (w.alloc (.cells #[.string x] t)) (some ⟨w.heap.size, 0, none⟩) [x] := by
  refine ⟨by simp [maxLen], fun i hi => ⟨w.heap.size, 0, rfl, ?_⟩⟩
  have hi0 : i = 0 := by simp at hi; omega
  subst hi0
  simp

theorem ba_list {x y : ByteArray} (h : x ≠ y) : x.toList ≠ y.toList := by
  rw [ByteArray.toList_eq, ByteArray.toList_eq]
  obtain ⟨⟨a⟩⟩ := x
  obtain ⟨⟨b⟩⟩ := y
  intro e
  exact h (by cases e; rfl)
theorem ba_ne {x y : ByteArray} (h : x ≠ y) : (!(x.toList == y.toList)) = true := by
  have := ba_list h
  simpa using this
theorem ba_neb {x y : ByteArray} (h : x ≠ y) : (x.toList == y.toList) = false := by
  have := ba_list h
  simpa using this

/-! ### Same -/
theorem scan_as {w : World} {s : ByteArray} (hs : s.size ≤ 1000000000) {m : List ByteArray} {k : Nat} (h : (Wal.scan (nums s)).1.map textOf = m) (hk : (Wal.scan (nums s)).2 = k) :
    Calls Try.prog 60 #[.string s] w fun e w' => ∃ ao cap, e = .returned (.tuple #[.slice ao m.length cap, .int .i64 k]) ∧ StrsIn w' ao m ∧ (∀ a, ao = some a → w.heap.size ≤ a.block) ∧ Only NoBlock w w' := by
  subst h; subst hk
  refine (scan_at w s hs).mono ?_
  rintro e w' ⟨v, rfl, hv, ho⟩
  have hlt := World.ownsRow.lt hv
  obtain ⟨ao, cap, rfl, hv, _⟩ := hv.isIn
  exact ⟨ao, cap, rfl, hv, fun a e => by subst e; exact (hlt _ rfl).1, ho⟩

/-! ### small -/
def total (l : List ByteArray) : Nat := (l.map (fun s => s.size)).sum
theorem total_snoc (l : List ByteArray) (s : ByteArray) : total (l ++ [s]) = total l + s.size := by simp [total]
def small (l : List ByteArray) : Prop := total l ≤ 20000 ∧ l.length ≤ 200
theorem total_take (l : List ByteArray) (k : Nat) : total (l.take k) ≤ total l := by
  have : total l = total (l.take k) + total (l.drop k) := by
    conv => lhs; rw [← List.take_append_drop k l]
    simp only [total, List.map_append, List.sum_append]
  omega
theorem total_bound {l : List ByteArray} {B : Nat} (h : ∀ i, i < l.length → (l.getD i ByteArray.empty).size ≤ B) : ∀ k, total (l.take k) ≤ k * B
  | 0 => by simp [total]
  | k + 1 => by
    by_cases hk : k < l.length
    · rw [Wal.take_snoc hk, total_snoc, Nat.succ_mul]
      have := total_bound h k
      have := h k hk
      omega
    · have e : l.take (k + 1) = l.take k := by rw [List.take_of_length_le (by omega), List.take_of_length_le (by omega)]
      rw [e, Nat.succ_mul]
      have := total_bound h k
      omega
/-- how long the frames of texts are -/
theorem text_total (l : List ByteArray) : (Wal.text l).size ≤ 2 * total l + 8 * l.length := by
  induction l with
  | nil => simp [Wal.text_nil]
  | cons x r ih =>
    have e : Wal.text (x :: r) = Wal.text [x] ++ Wal.text r := Wal.text_append [x] r
    have e2 : Wal.text [x] = textOf (Wal.frame (nums x)) := by
      unfold Wal.text
      rw [List.map_cons, List.map_nil, Wal.frames_cons, Wal.frames_nil, List.append_nil]
    have h1 := Wal.frame_long (nums x)
    rw [nums_length] at h1
    rw [e, e2, ByteArray.size_append, textOf_size]
    have : total (x :: r) = x.size + total r := by simp [total]
    rw [this, List.length_cons]
    omega

def SmallEnd (l : List ByteArray) (w : World) (e : Ending) (w' : World) : Prop := ∃ b : Bool, e = .returned (.bool b) ∧ w = w' ∧ RowKit.Hid (b = true → small l)
end Go.Proofs.Ytekmjhenhgmpgaa

/- Two lists of numbers are compared. -/
namespace Go.Proofs.Ytekmjhenhgmpgaa
open Go.RowKit
set_option maxRecDepth 100000

end Go.Proofs.Ytekmjhenhgmpgaa

/- The document's answer whether members are a set. -/
namespace Go.Proofs.Ytekmjhenhgmpgaa
open Go.RowKit
set_option maxRecDepth 100000

theorem rsound_at (w : World) (c : Nat) (hc : c < 2 ^ 64) :
    Calls Try.prog 41 #[.int .u64 c] w fun e w' => e = .returned (.bool (Qu.soundB c)) ∧ w = w' := by
  by_cases h0 : c = 0
  · subst h0
    go_enter Try.func41, Try.ntmps41
    go_wp2
    go_ret
    exact ⟨rfl, rfl⟩
  · have h1 : 0 < c := by omega
    have HZ := Lib.hid h1
    by_cases h2 : c < 128
    · have hs : Qu.soundB c = true := by unfold Qu.soundB; simp; omega
      have HS := Lib.hid hs
      have h3 : decide ((c : Int) < 128) = true := by simp; omega
      have h4 : decide (c < 128) = true := by simp; omega
      clear hs h0
      go_enter Try.func41, Try.ntmps41
      go_wp2
      go_ret
      exact ⟨by rw [HS.out]; rfl, rfl⟩
    · have hs : Qu.soundB c = false := by unfold Qu.soundB; simp; omega
      have HS := Lib.hid hs
      have h3 : decide ((c : Int) < 128) = false := by simp; omega
      have h4 : decide (c < 128) = false := by simp; omega
      have h5 : 128 ≤ c := by omega
      clear hs h0 h2
      go_enter Try.func41, Try.ntmps41
      go_wp2
      go_ret
      exact ⟨by rw [HS.out]; rfl, rfl⟩
end Go.Proofs.Ytekmjhenhgmpgaa

/- The document's records of a store: a vote, an entry, a cut, a snapshot. -/
namespace Go.Proofs.Ytekmjhenhgmpgaa
open Go.RowKit
set_option maxRecDepth 100000

/-- a row of numbers of 64 bits that is read -/
structure U64sIn (w : World) (ao : Option Addr) (l : List Nat) : Prop where
  wf : ∀ x ∈ l, x < 18446744073709551616
  len : l.length ≤ 1000
  cell : ∀ i, i < l.length → ∃ b off, ao = some ⟨b, off, none⟩ ∧ w.cell? ⟨b, off + i, none⟩ = some (.int .u64 (l.getD i 0))
theorem U64sIn.keeps {S : Nat → Prop} {w w' : World} {ao : Option Addr} {l : List Nat} (h : U64sIn w ao l) (ho : Only S w w') (hs : ∀ a, ao = some a → ¬ S a.block) : U64sIn w' ao l :=
  ⟨h.wf, h.len, fun i hi => by
    obtain ⟨b, off, e, h0⟩ := h.cell i hi
    have hlt : b < w.heap.size := World.block_lt_of_cell? w _ h0
    have hb := ho.block b hlt (hs ⟨b, off, none⟩ e)
    exact ⟨b, off, e, by rw [← h0]; simp [World.cell?, hb]⟩⟩
def numsB (l : List Nat) : List Int := l.flatMap Pk.num
theorem numsB_snoc {l : List Nat} {k : Nat} (h : k < l.length) : numsB (l.take (k + 1)) = numsB (l.take k) ++ Pk.num (l.getD k 0) := by
  have e : l.take (k + 1) = l.take k ++ [l.getD k 0] := by rw [List.take_add_one, List.getElem?_eq_getElem h, List.getD_eq_getElem?_getD, List.getElem?_eq_getElem h]; rfl
  rw [e]; unfold numsB; simp
theorem numsB_len {l : List Nat} (h : ∀ x ∈ l, x < 18446744073709551616) : (numsB l).length ≤ 9 * l.length := by
  induction l with
  | nil => simp [numsB]
  | cons x r ih =>
    have h1 := num_len (h x (by simp))
    have h2 := ih (fun y hy => h y (by simp [hy]))
    have e : numsB (x :: r) = Pk.num x ++ numsB r := by simp [numsB]
    rw [e, List.length_append, List.length_cons]; omega

set_option maxHeartbeats 1000000 in
theorem rnums_at (w : World) (ao : Option Addr) (cap : Nat) (l : List Nat) (hl : U64sIn w ao l) :
    Calls Try.prog 50 #[.slice ao l.length cap] w fun e w' => e = .returned (.string (textOf (numsB l))) ∧ Only NoBlock w w' := by
  have hlen := hl.len
  go_enter Try.func50, Try.ntmps50
  go_wp2_with fail
  go_loopw [3, 4] (fun u3 u4 wr => ∃ (k : Nat), k ≤ l.length ∧ u4 = .int .i64 k ∧ u3 = .string (textOf (numsB (l.take k))) ∧ Only NoBlock w wr) (fun _ u4 _ => l.length - (intOf u4).toNat)
  case atStart => exact ⟨0, by omega, rfl, rfl, Only.refl _ _⟩
  case round =>
    obtain ⟨k, hk, rfl, rfl, hn⟩ := hrel
    by_cases hlt : k < l.length
    · obtain ⟨b, off, rfl, hc⟩ := (hl.keeps hn (fun _ _ h => h)).cell k hlt
      have hw : l.getD k 0 < 18446744073709551616 := by rw [List.getD_eq_getElem?_getD, List.getElem?_eq_getElem hlt]; exact hl.wf _ (List.getElem_mem hlt)
      have hs := numsB_snoc hlt
      have hz := numsB_len (l := l.take k) (fun x hx => hl.wf x (List.mem_of_mem_take hx))
      rw [List.length_take, Nat.min_eq_left hk] at hz
      have HS := Lib.hid hs
      clear hs
      generalize l.getD k 0 = x at hc hw HS
      have hxl := num_len hw
      have hcat : (9223372036854775807 < (textOf (numsB (l.take k))).size + (textOf (Pk.num x)).size) = False := by rw [textOf_size, textOf_size]; simp; omega
      go_wp2_with fail
      refine (dnum_at _ x hw).mono ?_
      rintro e w2 ⟨rfl, hO⟩
      go_wp2_with fail
      go_roundw
      case rel => exact ⟨k + 1, by omega, by go_num, by rw [HS.out, textOf_append], hn.trans hO⟩
      case measure => simp [intOf]; omega
    · obtain rfl : k = l.length := by omega
      rw [List.take_length]
      go_wp2_with fail
      go_ret
      exact ⟨rfl, hn⟩
theorem u64s_made (w : World) (l : List Nat) (t : TypeId) (hl : l.length ≤ 1000) (hw : ∀ x ∈ l, x < 18446744073709551616) : U64sIn (w.alloc (.cells (l.map (fun (x : Nat) => Value.int .u64 (x : Int))).toArray t)) (some ⟨w.heap.size, 0, none⟩) l := by
  have hb := Blk.made w (l.map (fun (x : Nat) => Value.int .u64 (x : Int))).toArray t
  refine ⟨hw, hl, fun i hi => ⟨w.heap.size, 0, rfl, ?_⟩⟩
  rw [hb.cell, Nat.zero_add]
  rw [List.getElem?_toArray, List.getElem?_map, List.getElem?_eq_getElem hi, List.getD_eq_getElem?_getD, List.getElem?_eq_getElem hi]
  rfl
theorem rnums_as {w : World} {ao : Option Addr} {cap len : Nat} {l : List Nat} (hl : U64sIn w ao l) (hlen : l.length = len) {s : ByteArray} (hs : textOf (numsB l) = s) :
    Calls Try.prog 50 #[.slice ao len cap] w fun e w' => e = .returned (.string s) ∧ Only NoBlock w w' := by
  subst hlen; subst hs; exact rnums_at w ao cap l hl

set_option maxHeartbeats 1000000 in
theorem rhard8_at (w : World) (h : Hrd) (hh : h.Wf) :
    Calls Try.prog 21 #[.agg #[.int .u64 h.term, .int .i64 h.vote]] w fun e w' => e = .returned (.string (Sto.hardB h)) ∧ Only NoBlock w w' := by
  obtain ⟨ht, hv⟩ := h
  obtain ⟨h1, h2⟩ := hh
  simp only at h1 h2
  have hconv := u64_conv hv (wf_both h2).1 (wf_both h2).2
  have hconv' : IntKind.u64.wrap (wrap64 (hv + 1)) = ((u64 (hv + 1) : Nat) : Int) := by rw [← hconv, IntWalk.i64_left]
  have hx := u64_lt (hv + 1)
  have hbx := Blk.made w #[.int .u64 ht, .int .i64 hv] 37
  have hn := (Only.refl NoBlock w).alloc (Obj.cells #[.int .u64 ht, .int .i64 hv] 37)
  go_enter Try.func21, Try.ntmps21
  go_upto_region 1 with fail
  generalize w.heap.size = X at hbx ⊢
  generalize w.alloc (Obj.cells #[.int .u64 ht, .int .i64 hv] 37) = w1 at hbx hn ⊢
  have b0 : w1.cell? ⟨X, 0, none⟩ = some (.int .u64 ht) := by rw [hbx.cell]; rfl
  have b1 : w1.cell? ⟨X, 1, none⟩ = some (.int .i64 hv) := by rw [hbx.cell]; rfl
  have HEQ : RowKit.Hid (textOf (numsB [1, ht, u64 (hv + 1)]) = Sto.hardB ⟨ht, hv⟩) := Lib.hid (by unfold numsB Sto.hardB Rc.hard; simp)
  generalize u64 (hv + 1) = x at *
  go_wp2_with fail
  have hrow := u64s_made w1 [1, ht, x] 23 (by simp) (by intro y hy; simp at hy; rcases hy with rfl | rfl | rfl <;> omega)
  refine (rnums_as hrow rfl HEQ.out).mono ?_
  rintro e w2 ⟨rfl, hO⟩
  go_wp2_with fail
  go_ret
  exact ⟨rfl, (hn.alloc _).trans hO⟩
end Go.Proofs.Ytekmjhenhgmpgaa
