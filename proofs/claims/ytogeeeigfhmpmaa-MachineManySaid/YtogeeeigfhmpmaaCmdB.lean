/- Commands that are written are read back (layers 13, 16), in plain lists. -/
import Derived.Test.YtogeeeigfhmpmaaCmdM
namespace Go.Proofs.Ytogeeeigfhmpmaa.Pk

theorem rdS_back {t : Stp} (h : okS t = true) (u : List Int) (b : Bool) : rdS ⟨encS t ++ u, b⟩ = (t, ⟨u, b⟩) := by
  unfold okS at h
  simp only [Bool.and_eq_true, decide_eq_true_eq] at h
  unfold rdS encS
  simp only [List.append_assoc]
  rw [up_back (by omega) (by omega), text_back (by omega) (by omega), up_back (by omega) (by omega)]
theorem rdSn_back : ∀ (l : List Stp) (_ : l.all okS = true) (u : List Int) (b : Bool), rdSn l.length ⟨l.flatMap encS ++ u, b⟩ = (l, ⟨u, b⟩)
  | [], _, u, b => rfl
  | t :: l, h, u, b => by
    rw [List.all_cons, Bool.and_eq_true] at h
    rw [List.flatMap_cons, List.append_assoc, List.length_cons]
    unfold rdSn
    simp only
    rw [rdS_back h.1]
    simp only
    rw [rdSn_back l h.2]
theorem rdSs_back {l : List Stp} (h : okSs l = true) (u : List Int) : rdSs ⟨encSs l ++ u, false⟩ = (l, ⟨u, false⟩) := by
  unfold okSs at h
  simp only [Bool.and_eq_true, decide_eq_true_eq] at h
  unfold rdSs encSs
  simp only [List.append_assoc]
  rw [up_back (by omega) (by omega)]
  simp only
  rw [rdSn_back l h.2]
  simp
/-- numbers of 64 bits -/
structure Cmd.Wf (c : Cmd) : Prop where
  session : c.session < 18446744073709551616
  seq : c.seq < 18446744073709551616
  saga : c.saga < 18446744073709551616
  now : c.now < 18446744073709551616
theorem may_kind {c : Cmd} (h : may c = true) : c.kind ≤ 5 := by
  unfold may at h
  split at h
  · omega
  · split at h
    · omega
    · split at h
      · omega
      · cases h
theorem truth_le (b : Bool) : truth b ≤ 1 := by unfold truth; split <;> omega
theorem truth_dec (b : Bool) : decide (truth b = 1) = b := by cases b <;> rfl
/-- what is written is read back -/
theorem rdC_enc {c : Cmd} (m k : Nat) (hm : 63 ≤ m) (hk : 8 ≤ k) (hm2 : m < 1000) (hk2 : k < 1000) (h : may c = true) (hw : c.Wf) : rdC m k (enc c) = (c, ⟨[], false⟩) := by
  have h5 := may_kind h
  obtain ⟨kind, session, seq, saga, steps, step, back, try_, ok, now⟩ := c
  obtain ⟨w1, w2, w3, w4⟩ := hw
  simp only at w1 w2 w3 w4 h5
  unfold rdC enc
  simp only [List.append_assoc]
  rw [up_back h5 (by omega)]
  simp only
  rw [num_back w1]
  simp only
  rw [num_back w2]
  simp only
  rw [num_back w3]
  simp only
  rw [num_back w4]
  simp only
  unfold may bare at h
  simp only at h
  by_cases h2 : kind = 2
  · subst h2
    simp at h
    obtain ⟨h1, ⟨⟨⟨r1, r2⟩, r3⟩, r4⟩⟩ := h
    subst r1 r2 r3 r4
    have := rdSs_back h1 []
    rw [List.append_nil] at this
    simp [this]
  · by_cases h4 : kind = 4
    · subst h4
      simp at h
      obtain ⟨⟨⟨⟨e1, e2⟩, e3⟩, e4⟩, e5⟩ := h
      simp only [e1]
      have t1 := truth_le back
      have t2 := truth_le ok
      have t3 := truth_dec back
      have t4 := truth_dec ok
      have u1 := up_back (x := step) (limit := m) (by omega) (by omega) (num (truth back) ++ (num try_ ++ num (truth ok))) false
      have u2 := up_back (x := truth back) (limit := 1) t1 (by omega) (num try_ ++ num (truth ok)) false
      have u3 := up_back (x := try_) (limit := k) (by omega) (by omega) (num (truth ok)) false
      have u4 := up_back (x := truth ok) (limit := 1) t2 (by omega) [] false
      rw [List.append_nil] at u4
      simp [u1, u2, u3, u4, t3, t4]
    · have hk1 : kind = 1 ∨ kind = 3 ∨ kind = 5 := by
        by_cases hh : kind = 1 ∨ kind = 3 ∨ kind = 5
        · exact hh
        · rw [if_neg hh, if_neg h2, if_neg h4] at h; cases h
      rw [if_pos hk1] at h
      simp at h
      obtain ⟨e0, ⟨⟨⟨r1, r2⟩, r3⟩, r4⟩⟩ := h
      subst e0 r1 r2 r3 r4
      simp [h2, h4]
theorem dec_enc {c : Cmd} (h : may c = true) (hw : c.Wf) : dec (enc c) = some c := by
  unfold dec
  rw [rdC_enc 64 9 (by omega) (by omega) (by omega) (by omega) h hw]
  simp [RD.done, h]
theorem rdC_wf {m k : Nat} {s : List Int} (hb : Byt s) : (rdC m k s).1.Wf := by
  have hb0 : Byt (RD.mk s false).s := hb
  have b1 := up_byt (m := 5) hb0
  have b2 := num_byt b1
  have b3 := num_byt b2
  have b4 := num_byt b3
  unfold rdC
  simp only
  split
  · exact ⟨numV_lt b1, numV_lt b2, numV_lt b3, numV_lt b4⟩
  · split
    · exact ⟨numV_lt b1, numV_lt b2, numV_lt b3, numV_lt b4⟩
    · exact ⟨numV_lt b1, numV_lt b2, numV_lt b3, numV_lt b4⟩
theorem dec_wf {s : List Int} {c : Cmd} (hb : Byt s) (h : dec s = some c) : c.Wf := by
  unfold dec at h
  simp only at h
  split at h
  · cases h; exact rdC_wf hb
  · cases h
end Go.Proofs.Ytogeeeigfhmpmaa.Pk
