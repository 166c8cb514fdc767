/- machine.Machine's do, whatever the command. -/
import Derived.Test.YtogeeeigfhmpmaaMdo
namespace Go.Proofs.Ytogeeeigfhmpmaa
open Go.RowKit
set_option maxRecDepth 100000

theorem may_shape {c : Pk.Cmd} (h : Pk.may c = true) (hk : c.kind ≠ 4) : c.step = 0 ∧ c.back = false ∧ c.try_ = 0 ∧ c.ok = false ∧ (c.kind ≠ 2 → c.steps = []) ∧ (c.kind = 2 → Pk.okSs c.steps = true) := by
  obtain ⟨k, a, b, s, l, st, bk, tr, ok, now⟩ := c
  simp only at hk
  unfold Pk.may Pk.bare at h
  simp only at h
  by_cases h1 : k = 1 ∨ k = 3 ∨ k = 5
  · rw [if_pos h1] at h
    simp at h
    obtain ⟨e0, ⟨⟨⟨r1, r2⟩, r3⟩, r4⟩⟩ := h
    exact ⟨r1, r2, r3, r4, fun _ => e0, fun e => by simp only at e; omega⟩
  · rw [if_neg h1] at h
    by_cases h2 : k = 2
    · rw [if_pos h2] at h
      simp at h
      obtain ⟨e0, ⟨⟨⟨r1, r2⟩, r3⟩, r4⟩⟩ := h
      exact ⟨r1, r2, r3, r4, fun e => absurd h2 e, fun _ => e0⟩
    · rw [if_neg h2, if_neg hk] at h
      cases h
theorem may_kinds {c : Pk.Cmd} (h : Pk.may c = true) : c.kind = 1 ∨ c.kind = 2 ∨ c.kind = 3 ∨ c.kind = 4 ∨ c.kind = 5 := by
  by_cases h1 : c.kind = 1 ∨ c.kind = 3 ∨ c.kind = 5
  · omega
  · by_cases h2 : c.kind = 2
    · omega
    · by_cases h4 : c.kind = 4
      · omega
      · unfold Pk.may at h
        rw [if_neg h1, if_neg h2, if_neg h4] at h
        cases h
theorem mdo_at (w : World) (p tb mb : Nat) (m : Mc.Mach) (hB : Blk w p #[.pointer (some ⟨tb, 0, none⟩), .map (some mb)] 72) (hS : SgsAt w mb m.sagas m.ids.length) (hk : m.Ok)
    (c : Pk.Cmd) (ao : Option Addr) (cap : Nat) (hrow : RowIn stpK 38 w ao c.steps) (hm : Pk.may c = true) (hw : c.Wf) (h1 : c.kind ≠ 1) (h4 : c.kind ≠ 4) :
    Calls Try.prog 31 #[.pointer (some ⟨p, 0, none⟩), cmdV c ao cap] w fun e w' => e = .returned (repV (m.do_ c).2) ∧ SgsAt w' mb (m.do_ c).1.sagas (m.do_ c).1.ids.length ∧ Only (fun k => k = mb) w w' := by
  have hks := may_kinds hm
  obtain ⟨e1, e2, e3, e4, e5, e6⟩ := may_shape hm h4
  have hws := hw.saga
  obtain ⟨k, a, b, sg, l, st, bk, tr, ok, now⟩ := c
  simp only at e1 e2 e3 e4 e5 e6 hks h1 h4 hrow hws
  subst e1 e2 e3 e4
  have keep : ∀ {w' : World}, Only NoBlock w w' → SgsAt w' mb m.sagas m.ids.length ∧ Only (fun k => k = mb) w w' := fun ho => ⟨hS.keepsN ho, ho.of_no⟩
  by_cases h2 : k = 2
  · subst h2
    have hok := e6 rfl
    cases hn : m.sagas sg with
    | some s =>
      have e : m.do_ ⟨2, a, b, sg, l, 0, false, 0, false, now⟩ = (m, ⟨42, 0, 0⟩) := by unfold Mc.Mach.do_; rw [if_pos rfl]; simp only [hn]
      rw [e]
      exact (mdo_twice w p tb mb m hB hS hk a b sg now l ao cap hrow hws s hn).mono (fun _ _ h => ⟨h.1, keep h.2⟩)
    | none =>
      by_cases hf : 16 ≤ m.ids.length
      · have e : m.do_ ⟨2, a, b, sg, l, 0, false, 0, false, now⟩ = (m, ⟨11, 0, 0⟩) := by unfold Mc.Mach.do_; rw [if_pos rfl]; simp only [hn]; rw [if_pos hf]
        rw [e]
        exact (mdo_full w p tb mb m hB hS hk a b sg now l ao cap hrow hws hn hf).mono (fun _ _ h => ⟨h.1, keep h.2⟩)
      · have e : m.do_ ⟨2, a, b, sg, l, 0, false, 0, false, now⟩ = (⟨m.tab, Mc.insert m.ids sg, Mc.put m.sagas sg (Mc.fresh l)⟩, Mc.told (Mc.fresh l)) := by unfold Mc.Mach.do_; rw [if_pos rfl]; simp only [hn]; rw [if_neg hf]
        rw [e]
        refine (mdo_new w p tb mb m hB hS hk a b sg now l ao cap hrow hws hn hf hok).mono (fun _ _ h => ⟨h.1, ?_, h.2.2⟩)
        simp only [Mc.insert_length]
        exact h.2.1
  · obtain rfl := e5 h2
    by_cases h3 : k = 3
    · subst h3
      cases hn : m.sagas sg with
      | none =>
        have e : m.do_ ⟨3, a, b, sg, [], 0, false, 0, false, now⟩ = (m, ⟨43, 0, 0⟩) := by unfold Mc.Mach.do_; rw [if_neg (by simp), if_pos rfl]; simp only [hn]
        rw [e]
        exact (mdo_none3 w p tb mb m hB hS hk a b sg now [] ao cap hrow hws hn).mono (fun _ _ h => ⟨h.1, keep h.2⟩)
      | some s =>
        have e : m.do_ ⟨3, a, b, sg, [], 0, false, 0, false, now⟩ = (⟨m.tab, m.ids, Mc.put m.sagas sg (Mc.abort s).1⟩, Mc.told (Mc.abort s).1) := by unfold Mc.Mach.do_; rw [if_neg (by simp), if_pos rfl]; simp only [hn]
        rw [e]
        exact mdo_abort w p tb mb m hB hS hk a b sg now [] ao cap hrow hws s hn
    · obtain rfl : k = 5 := by omega
      cases hn : m.sagas sg with
      | none =>
        have e : m.do_ ⟨5, a, b, sg, [], 0, false, 0, false, now⟩ = (m, ⟨43, 0, 0⟩) := by unfold Mc.Mach.do_; rw [if_neg (by simp), if_neg (by simp)]; simp only [hn]
        rw [e]
        exact (mdo_none5 w p tb mb m hB hS hk a b sg now [] ao cap hrow hws hn).mono (fun _ _ h => ⟨h.1, keep h.2⟩)
      | some s =>
        have e : m.do_ ⟨5, a, b, sg, [], 0, false, 0, false, now⟩ = (m, Mc.told s) := by unfold Mc.Mach.do_; rw [if_neg (by simp), if_neg (by simp)]; simp only [hn]
        rw [e]
        exact (mdo_query w p tb mb m hB hS hk a b sg now [] ao cap hrow hws s hn).mono (fun _ _ h => ⟨h.1, keep h.2⟩)
end Go.Proofs.Ytogeeeigfhmpmaa
