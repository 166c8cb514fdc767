/- What a machine answers to a first session and to its first sagas, in plain data; a command's bytes are bytes. -/
import Derived.Test.YtogeeeigfhmpmaaMachI
namespace Go.Proofs.Ytogeeeigfhmpmaa
namespace Mc
open Pk
theorem byt_append {a b : List Int} (ha : Byt a) (hb : Byt b) : Byt (a ++ b) := by
  intro c hc
  rcases List.mem_append.1 hc with h | h
  · exact ha c h
  · exact hb c h
theorem byt_num {x : Nat} (h : x < 18446744073709551616) : Byt (num x) := num_byte h
theorem byt_flat {α : Type} {f : α → List Int} {l : List α} (h : ∀ x ∈ l, Byt (f x)) : Byt (l.flatMap f) := by
  intro c hc
  obtain ⟨x, hx, hc⟩ := List.mem_flatMap.1 hc
  exact h x hx c hc
theorem enc_byt {c : Cmd} (hm : may c = true) (hw : c.Wf) (hb : ∀ t ∈ c.steps, ∀ x ∈ t.name, 0 ≤ x ∧ x ≤ 255) : Byt (enc c) := by
  have hk := may_kind hm
  have hst : ∀ t ∈ c.steps, okS t = true := by
    intro t ht
    unfold may at hm
    split at hm
    · rw [Bool.and_eq_true, List.isEmpty_iff] at hm; rw [hm.1] at ht; cases ht
    · split at hm
      · rw [Bool.and_eq_true] at hm; exact (okSs_pos hm.1).2.2 t ht
      · split at hm
        · simp at hm; rw [hm.1.1.1.1] at ht; cases ht
        · cases hm
  have hlen : c.kind = 2 → c.steps.length ≤ 64 := by
    intro h2
    unfold may at hm
    rw [if_neg (by omega), if_pos h2, Bool.and_eq_true] at hm
    exact (okSs_pos hm.1).2.1
  have h4 : c.kind = 4 → c.step < 64 ∧ c.try_ < 9 := by
    intro h2
    unfold may at hm
    rw [if_neg (by omega), if_neg (by omega), if_pos h2] at hm
    simp at hm
    omega
  unfold enc
  refine byt_append (byt_append (byt_append (byt_append (byt_append (byt_num (by omega)) (byt_num hw.session)) (byt_num hw.seq)) (byt_num hw.saga)) (byt_num hw.now)) ?_
  split
  · rename_i h2
    unfold encSs
    refine byt_append (byt_num (by have := hlen h2; omega)) (byt_flat (fun t ht => ?_))
    have ho := hst t ht
    unfold okS at ho
    simp only [Bool.and_eq_true, decide_eq_true_eq] at ho
    unfold encS text
    exact byt_append (byt_append (byt_num (by omega)) (byt_append (byt_num (by omega)) (hb t ht))) (byt_num (by omega))
  · split
    · rename_i h5
      have := h4 h5
      have t1 := truth_le c.back
      have t2 := truth_le c.ok
      exact byt_append (byt_append (byt_append (byt_num (by omega)) (byt_num (by omega))) (byt_num (by omega))) (byt_num (by omega))
    · intro c hc; cases hc
/-- one step named s -/
def oneStep : List Stp := [⟨0, [115], 1⟩]
def regCmd : Cmd := ⟨1, 0, 0, 0, [], 0, false, 0, false, 0⟩
def subCmd (seq id : Nat) : Cmd := ⟨2, 1, seq, id, oneStep, 0, false, 0, false, 0⟩
theorem reg_may : may regCmd = true := by decide
theorem reg_wf : regCmd.Wf := ⟨by decide, by decide, by decide, by decide⟩
theorem sub_may (seq id : Nat) : may (subCmd seq id) = true := rfl
theorem sub_wf {seq id : Nat} (h1 : seq < 18446744073709551616) (h2 : id < 18446744073709551616) : (subCmd seq id).Wf := ⟨by show 1 < _; decide, h1, h2, by show 0 < _; decide⟩
theorem one_byt : ∀ t ∈ oneStep, ∀ x ∈ t.name, 0 ≤ x ∧ x ≤ 255 := by
  intro t ht x hx
  simp [oneStep] at ht
  subst ht
  simp at hx
  subst hx
  omega
theorem reg_byt : Byt (enc regCmd) := enc_byt reg_may reg_wf (by simp [regCmd])
theorem sub_byt {seq id : Nat} (h1 : seq < 18446744073709551616) (h2 : id < 18446744073709551616) : Byt (enc (subCmd seq id)) := enc_byt (sub_may _ _) (sub_wf h1 h2) one_byt
/-- the one session -/
def oneTab (seq : Nat) (y : Rep) : Tab := ⟨0, 2, [⟨1, 0, seq, y⟩]⟩
theorem reg_apply : Mach.new.apply (enc regCmd) = (⟨oneTab 0 ⟨0, 0, 0⟩, [], fun _ => none⟩, ⟨0, 1, 0⟩) := by
  unfold Mach.apply
  rw [dec_enc reg_may reg_wf]
  rfl
theorem one_fresh : told (fresh oneStep) = ⟨0, 1, 0⟩ := rfl
theorem oneTab_start {n : Nat} {y : Rep} : (oneTab n y).start 1 (n + 1) = (oneTab n y, ⟨0, 0, 0⟩, true) := by
  have hf : find (oneTab n y).rows 1 = some 0 := rfl
  unfold Tab.start
  rw [hf]
  simp only
  have hx : (oneTab n y).rows.getD 0 ⟨0, 0, 0, ⟨0, 0, 0⟩⟩ = ⟨1, 0, n, y⟩ := rfl
  rw [hx]
  rw [if_neg (by rintro ⟨h, _⟩; simp at h), if_neg (by rintro (h | h); exact h rfl; simp at h)]
  rfl
theorem oneTab_end {n : Nat} {y z : Rep} {seq : Nat} : (oneTab n y).end_ 1 seq z = oneTab seq z := rfl
/-- a saga is submitted by the one session -/
theorem sub_apply {n id : Nat} {y : Rep} {ids : List Nat} {f : Sgs} (h1 : n + 1 < 18446744073709551616) (h2 : id < 18446744073709551616) :
    (⟨oneTab n y, ids, f⟩ : Mach).apply (enc (subCmd (n + 1) id)) = (match f id with
      | some _ => (⟨oneTab (n + 1) ⟨42, 0, 0⟩, ids, f⟩, ⟨42, 0, 0⟩)
      | none => if 16 ≤ ids.length then (⟨oneTab (n + 1) ⟨11, 0, 0⟩, ids, f⟩, ⟨11, 0, 0⟩) else (⟨oneTab (n + 1) ⟨0, 1, 0⟩, insert ids id, put f id (fresh oneStep)⟩, ⟨0, 1, 0⟩)) := by
  unfold Mach.apply
  rw [dec_enc (sub_may _ _) (sub_wf h1 h2)]
  have hc : (oneTab n y).clock (subCmd (n + 1) id).now = oneTab n y := rfl
  have hs : (subCmd (n + 1) id).session = 1 := rfl
  have hq : (subCmd (n + 1) id).seq = n + 1 := rfl
  have hk : (subCmd (n + 1) id).kind = 2 := rfl
  simp only [hc, hs, hq, hk, oneTab_start]
  rw [if_neg (by simp), if_neg (by simp), if_neg (by simp)]
  unfold Mach.do_
  have hg : (subCmd (n + 1) id).saga = id := rfl
  rw [if_pos hk]
  simp only [hg]
  cases f id with
  | some s => rfl
  | none =>
    simp only
    split
    · rfl
    · rfl
end Mc
end Go.Proofs.Ytogeeeigfhmpmaa
