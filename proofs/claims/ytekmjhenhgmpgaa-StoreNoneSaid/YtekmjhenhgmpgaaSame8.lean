/- States and rows of entries compared. -/
import Derived.Test.YtekmjhenhgmpgaaNeq
namespace Go.Proofs.Ytekmjhenhgmpgaa
open Go.RowKit
set_option maxRecDepth 100000

instance : DecidableEq Ent := fun a b => if h : a.term = b.term ∧ a.index = b.index ∧ a.kind = b.kind ∧ a.data = b.data then isTrue (by obtain ⟨a1, a2, a3, a4⟩ := a; obtain ⟨b1, b2, b3, b4⟩ := b; obtain ⟨h1, h2, h3, h4⟩ := h; simp only at h1 h2 h3 h4; subst h1; subst h2; subst h3; subst h4; rfl) else isFalse (by intro e; subst e; exact h ⟨rfl, rfl, rfl, rfl⟩)
instance : DecidableEq Hrd := fun a b => if h : a.term = b.term ∧ a.vote = b.vote then isTrue (by obtain ⟨a1, a2⟩ := a; obtain ⟨b1, b2⟩ := b; obtain ⟨h1, h2⟩ := h; simp only at h1 h2; subst h1; subst h2; rfl) else isFalse (by intro e; subst e; exact h ⟨rfl, rfl⟩)
instance : DecidableEq Snp := fun a b => if h : a.index = b.index ∧ a.term = b.term ∧ a.config = b.config ∧ a.data = b.data then isTrue (by obtain ⟨a1, a2, a3, a4⟩ := a; obtain ⟨b1, b2, b3, b4⟩ := b; obtain ⟨h1, h2, h3, h4⟩ := h; simp only at h1 h2 h3 h4; subst h1; subst h2; subst h3; subst h4; rfl) else isFalse (by intro e; subst e; exact h ⟨rfl, rfl, rfl, rfl⟩)
instance : DecidableEq St := fun a b => if h : a.hard = b.hard ∧ a.snap = b.snap ∧ a.es = b.es then isTrue (by obtain ⟨a1, a2, a3⟩ := a; obtain ⟨b1, b2, b3⟩ := b; obtain ⟨h1, h2, h3⟩ := h; simp only at h1 h2 h3; subst h1; subst h2; subst h3; rfl) else isFalse (by intro e; subst e; exact h ⟨rfl, rfl, rfl⟩)

theorem ba_neb8 {x y : ByteArray} (h : ¬ x = y) : (x.toList == y.toList) = false := by
  have : x.toList ≠ y.toList := by
    rw [ByteArray.toList_eq, ByteArray.toList_eq]
    obtain ⟨⟨a⟩⟩ := x
    obtain ⟨⟨b⟩⟩ := y
    intro e
    exact h (by cases e; rfl)
  simpa using this
theorem ents_take_snoc {l : List Ent} {k : Nat} (h : k < l.length) : l.take (k + 1) = l.take k ++ [l.getD k Ent.zero] := by
  rw [List.take_add_one, List.getElem?_eq_getElem h, List.getD_eq_getElem?_getD, List.getElem?_eq_getElem h]; rfl

set_option maxHeartbeats 2000000 in
theorem rsame7_at (w : World) (ao bo : Option Addr) (ca cb : Nat) (l m : List Ent) (hl : EntsIn w ao l) (hm : EntsIn w bo m) (hla : l.length ≤ 1000000000000) (hlb : m.length ≤ 1000000000000) :
    Calls Try.prog 71 #[.slice ao l.length ca, .slice bo m.length cb] w fun e w' => e = .returned (.bool (decide (l = m))) ∧ ∃ q, w' = w.drewN q := by
  by_cases hlen : l.length = m.length
  · have hlb2 : ((l.length : Int) != (m.length : Int)) = false := by simp [hlen]
    have HL := Lib.hid hlen
    clear hlen
    go_enter Try.func71, Try.ntmps71
    go_wp2_with fail
    go_loopw [5] (fun i wr => ∃ (k q : Nat), k ≤ l.length ∧ i = .int .i64 k ∧ wr = w.drewN q ∧ RowKit.Hid (l.take k = m.take k)) (fun i _ => l.length - (intOf i).toNat)
    case atStart => exact ⟨0, 0, by omega, rfl, rfl, Lib.hid rfl⟩
    case round =>
      obtain ⟨k, q, hk, rfl, rfl, HS⟩ := hrel
      by_cases hlt : k < l.length
      · have hlt2 : k < m.length := by rw [← HL.out]; exact hlt
        obtain ⟨b1, o1, rfl, c0, c1, c2, c3⟩ := hl.cell k hlt
        obtain ⟨b2, o2, rfl, d0, d1, d2, d3⟩ := hm.cell k hlt2
        have t1 := ents_take_snoc hlt
        have t2 := ents_take_snoc hlt2
        have hg1 : l[k]? = some (l.getD k Ent.zero) := by rw [List.getD_eq_getElem?_getD, List.getElem?_eq_getElem hlt]; rfl
        have hg2 : m[k]? = some (m.getD k Ent.zero) := by rw [List.getD_eq_getElem?_getD, List.getElem?_eq_getElem hlt2]; rfl
        have HT := Lib.hid (And.intro t1 (And.intro t2 (And.intro hg1 hg2)))
        clear t1 t2 hg1 hg2
        generalize l.getD k Ent.zero = x at c0 c1 c2 c3 HT
        generalize m.getD k Ent.zero = y at d0 d1 d2 d3 HT
        by_cases hxy : x = y
        · subst hxy
          obtain ⟨x1, x2, x3, x4⟩ := x
          simp only at c0 c1 c2 c3 d0 d1 d2 d3
          go_wp2_with fail
          go_quiet (fail)
          go_wp2_with fail
          refine ⟨⟨k + 1, q + nq, by omega, by go_num, rfl, Lib.hid (by obtain ⟨h1, h2, _⟩ := HT.out; rw [h1, h2, HS.out])⟩, by simp [intOf]; omega⟩
        · have hne : ¬ l = m := by
            intro e
            obtain ⟨_, _, h3, h4⟩ := HT.out
            rw [e, h4] at h3
            cases h3
            exact hxy rfl
          have HN : RowKit.Hid (decide (l = m) = false) := Lib.hid (by simpa using hne)
          clear hne HT
          obtain ⟨x1, x2, x3, x4⟩ := x
          obtain ⟨y1, y2, y3, y4⟩ := y
          simp only at c0 c1 c2 c3 d0 d1 d2 d3
          by_cases g1 : x1 = y1
          · subst g1
            by_cases g2 : x2 = y2
            · subst g2
              by_cases g3 : x3 = y3
              · subst g3
                have g4 := ba_neb8 (x := x4) (y := y4) (fun e => hxy (by rw [e]))
                clear hxy
                go_wp2_with fail
                go_quiet (fail)
                go_wp2_with fail
                go_ret
                exact ⟨by rw [HN.out]; rfl, _, World.drewN_drewN w q _⟩
              · clear hxy
                go_wp2_with fail
                go_quiet (fail)
                go_wp2_with fail
                go_ret
                exact ⟨by rw [HN.out]; rfl, _, World.drewN_drewN w q _⟩
            · clear hxy
              have g2' : ¬ (x2 : Int) = (y2 : Int) := by omega
              go_wp2_with fail
              go_quiet (fail)
              go_wp2_with fail
              go_ret
              exact ⟨by rw [HN.out]; rfl, _, World.drewN_drewN w q _⟩
          · clear hxy
            have g1' : ¬ (x1 : Int) = (y1 : Int) := by omega
            go_wp2_with fail
            go_quiet (fail)
            go_wp2_with fail
            go_ret
            exact ⟨by rw [HN.out]; rfl, _, World.drewN_drewN w q _⟩
      · obtain rfl : k = l.length := by omega
        have he : l = m := by
          have := HS.out
          rw [List.take_length, HL.out, List.take_length] at this
          exact this
        have HN : RowKit.Hid (decide (l = m) = true) := Lib.hid (by simpa using he)
        clear he
        go_wp2_with fail
        go_ret
        exact ⟨by rw [HN.out]; rfl, _, rfl⟩
  · have hlb2 : ((l.length : Int) != (m.length : Int)) = true := by simp; omega
    have HN : RowKit.Hid (decide (l = m) = false) := Lib.hid (by simp; intro e; exact hlen (by rw [e]))
    clear hlen
    go_enter Try.func71, Try.ntmps71
    go_wp2_with fail
    go_ret
    exact ⟨by rw [HN.out]; rfl, 0, rfl⟩
end Go.Proofs.Ytekmjhenhgmpgaa
