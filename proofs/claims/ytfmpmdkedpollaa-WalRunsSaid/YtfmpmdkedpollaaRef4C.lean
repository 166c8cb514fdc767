/- The document's disk: Files, Crash; the comparison of two lists of numbers. -/
import Derived.Test.YtfmpmdkedpollaaRef4B
import Derived.Test.YtfmpmdkedpollaaIntsEq
namespace Go.Proofs.Ytfmpmdkedpollaa
open Go.RowKit Go.Maps
set_option maxRecDepth 100000

theorem list_range (F : Fs) : ∀ k, ∀ x ∈ F.list k, 0 ≤ x ∧ x < (k : Int)
  | 0, x, h => by simp [Fs.list] at h
  | k + 1, x, h => by
    unfold Fs.list at h
    rcases List.mem_append.1 h with h | h
    · have := list_range F k x h; omega
    · split at h
      · simp at h; omega
      · simp at h
theorem Ints.files {w : World} {base : Nat} {v : Value} {F : Fs} (h : Ints w base v (F.list 16)) : ∃ ao cap, v = .slice ao (F.list 16).length cap ∧ IntsIn w ao (F.list 16) :=
  h.read (by have := list_len F 16; unfold maxLen; omega) (fun x hx => by have := list_range F 16 x hx; exact wf_small (by omega) (by omega))
theorem IntsIn.keeps {S : Nat → Prop} {w w' : World} {ao : Option Addr} {l : List Int} (h : IntsIn w ao l) (ho : Only S w w') (hs : ∀ a, ao = some a → ¬ S a.block) : IntsIn w' ao l :=
  ⟨h.wf, h.len, fun i hi => by
    obtain ⟨b, off, e, hc⟩ := h.cell i hi
    exact ⟨b, off, e, keeps_cell (a := ⟨b, off + i, none⟩) ho (hs ⟨b, off, none⟩ e) hc⟩⟩

theorem Says.crash {F : Fs} {l : List Int} {fi so : Nat → ByteArray} {th : Nat → Bool} {k j : Nat} {fa fb : ByteArray} {b : Bool} (hs : Says (F.crashed l (fun x => decide ((k : Int) ≤ x))) fi so th) (hf : (F k).getD noFile = (fa, fb))
    (hj : j = (max 0 (min (keepOf l (k : Int)) (fb.size : Int))).toNat) (hb : b = ((F k).isSome && (!(fa ++ fb.extract 0 j).toList.isEmpty || fb.toList.isEmpty))) :
    Says (F.crashed l (fun x => decide (((k + 1 : Nat) : Int) ≤ x))) (upd fi k (fa ++ fb.extract 0 j)) so (upd th k b) := by
  have hle : j ≤ fb.size := by omega
  have old : ∀ i : Nat, i ≠ k → F.crashed l (fun x => decide (((k + 1 : Nat) : Int) ≤ x)) i = F.crashed l (fun x => decide ((k : Int) ≤ x)) i := by
    intro i hi
    unfold Fs.crashed
    by_cases h : (k : Int) ≤ (i : Int)
    · rw [if_pos (by simpa using (by omega : ((k + 1 : Nat) : Int) ≤ (i : Int))), if_pos (by simpa using h)]
    · rw [if_neg (by simpa using (by omega : (i : Int) < ((k + 1 : Nat) : Int))), if_neg (by simpa using h)]
  have hgone : F.crashed l (fun x => decide ((k : Int) ≤ x)) k = none := by
    unfold Fs.crashed
    rw [if_pos (by simp)]
  have hnew : F.crashed l (fun x => decide (((k + 1 : Nat) : Int) ≤ x)) k = match F k with | none => none | some f => leftFile f (keepOf l k) := by
    unfold Fs.crashed
    rw [if_neg (by simp; omega)]
    cases F k <;> rfl
  have hnew2 : (F.crashed l (fun x => decide (((k + 1 : Nat) : Int) ≤ x)) k).getD noFile = (fa ++ fb.extract 0 j, ByteArray.empty) ∧ (F.crashed l (fun x => decide (((k + 1 : Nat) : Int) ≤ x)) k).isSome = b := by
    rw [hnew]
    have hes : (fb.extract 0 j).size = j := by rw [ByteArray.size_extract]; omega
    cases hF : F k with
    | none =>
      rw [hF] at hf hb
      cases hf
      have hj0 : j = 0 := by have : (ByteArray.empty).size = 0 := rfl; omega
      subst hj0
      refine ⟨?_, by rw [hb]; rfl⟩
      show noFile = _
      unfold noFile
      rfl
    | some f =>
      rw [hF] at hf hb
      have hff : f = (fa, fb) := hf
      subst hff
      simp only
      unfold leftFile
      simp only
      rw [← hj]
      by_cases hg : fa.size = 0 ∧ j = 0 ∧ fb.size ≠ 0
      · obtain ⟨h1, h2, h3⟩ := hg
        rw [if_pos ⟨h1, h2, h3⟩]
        have he : (fa ++ fb.extract 0 j).size = 0 := by rw [ByteArray.size_append, hes]; omega
        refine ⟨?_, ?_⟩
        · rw [ByteArray.size_eq_zero_iff.1 he]; rfl
        · rw [hb, empty_of_size he, full_of_size h3]; rfl
      · rw [if_neg hg]
        refine ⟨rfl, ?_⟩
        rw [hb]
        by_cases h3 : fb.size = 0
        · rw [empty_of_size h3]; simp
        · have he : (fa ++ fb.extract 0 j).size ≠ 0 := by rw [ByteArray.size_append, hes]; omega
          rw [full_of_size he]; simp
  refine ⟨fun i hi => ?_, fun i hi => ?_, fun i hi => ?_⟩ <;> by_cases e : i = k
  · subst e; rw [hnew2.1]; simp [upd]
  · rw [old i e]; simp only [upd, if_neg e]; exact hs.firm i hi
  · subst e; rw [hnew2.1]
    have := hs.soft i hi
    rw [hgone] at this
    exact this
  · rw [old i e]; exact hs.soft i hi
  · subst e; rw [hnew2.2]; simp [upd]
  · rw [old i e]; simp only [upd, if_neg e]; exact hs.there i hi

end Go.Proofs.Ytfmpmdkedpollaa
