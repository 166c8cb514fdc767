/- The document's disk: Files, Crash; the comparison of two lists of numbers. -/
import Derived.Test.YtdinkbmajcpnbaaRef4B
import Derived.Test.YtdinkbmajcpnbaaIntsEq
namespace Go.Proofs.Ytdinkbmajcpnbaa
open Go.RowKit Go.Maps
set_option maxRecDepth 100000

theorem list_range (F : Fs) : ∀ k, ∀ x ∈ F.list k, 0 ≤ x ∧ x < (k : Int)
  | 0, x, h => by simp [Fs.list] at h
  | k + 1, x, h => by
    unfold Fs.list at h
    rcases List.mem_append.1 h with h | h
    · have := list_range F k x h; omega
    · split at h
      · simp at h; omega
      · simp at h
theorem Ints.files {w : World} {base : Nat} {v : Value} {F : Fs} (h : Ints w base v (F.list 16)) : ∃ ao cap, v = .slice ao (F.list 16).length cap ∧ IntsIn w ao (F.list 16) :=
  h.read (by have := list_len F 16; unfold maxLen; omega) (fun x hx => by have := list_range F 16 x hx; exact wf_small (by omega) (by omega))
theorem IntsIn.keeps {S : Nat → Prop} {w w' : World} {ao : Option Addr} {l : List Int} (h : IntsIn w ao l) (ho : Only S w w') (hs : ∀ a, ao = some a → ¬ S a.block) : IntsIn w' ao l :=
  ⟨h.wf, h.len, fun i hi => by
    obtain ⟨b, off, e, hc⟩ := h.cell i hi
    exact ⟨b, off, e, keeps_cell (a := ⟨b, off + i, none⟩) ho (hs ⟨b, off, none⟩ e) hc⟩⟩

theorem rfiles_at (w : World) (r : Nat) (M : DM) (h : RefAt w r M) :
    Calls Try.prog 25 #[.pointer (some ⟨r, 0, none⟩)] w fun e w' => ∃ v, e = .returned v ∧ Ints w' w.heap.size v (M.files.list 16) ∧ Only NoBlock w w' := by
  obtain ⟨i0, hi, hz0, hz1, hz2⟩ := info_parts Dk.info_int
  go_enter Try.func25, Try.ntmps25
  go_wp2
  go_loopw [3, 4] (fun v i wr => ∃ k : Nat, k ≤ 16 ∧ i = .int .i64 k ∧ Ints wr w.heap.size v (M.files.list k) ∧ Only NoBlock w wr) (fun _ i _ => 16 - (intOf i).toNat)
  case atStart => exact ⟨0, by omega, rfl, World.ownsRow_nil _ _ _ _, Only.refl _ _⟩
  case round =>
    obtain ⟨k, hk, rfl, hown, ho⟩ := hrel
    unfold Ints at hown
    have hd := h.keeps ho (fun h => h)
    have hws := ho.size
    by_cases hlt : k < 16
    · have c := hd.cThere hlt
      have hll := list_len M.files k
      cases hth : (M.files k).isSome with
      | false =>
        rw [hth] at c
        go_wp2
        go_roundw
        case rel => exact ⟨k + 1, by omega, by go_num, by unfold Fs.list Ints; rw [hth]; simpa using hown, ho⟩
        case measure => simp [intOf]; omega
      | true =>
        rw [hth] at c
        go_wp2_with (first
          | (at_builtin; refine wpList_append_own _ rfl _ _ 32 rfl w.heap.size 3 i0 (.int .i64 0) 1 8 Dk.u_ints hi hz0 hz1 hz2 rfl (by decide) _ _ _ rfl (World.ownsRow.alloc hown _) ⟨wr.heap.size, 0, none⟩ 1 1 [.int .i64 (k : Int)] rfl rfl ?_ ?_ ?_ ?_ ?_ ?_; (exact cell_one_at _ _ _ _ (by simp)); (simp [Value.oneCell']); (unfold maxLen; omega); omega; (simp; omega); intro v' w1 hown' hgrow _))
        go_roundw
        case rel =>
          have hn3 : Only NoBlock w w1 := (ho.alloc _).appended (hown.alloc _) (Nat.le_refl _) hgrow
          exact ⟨k + 1, by omega, by go_num, by unfold Fs.list Ints; rw [hth]; simpa using hown', hn3⟩
        case measure => simp [intOf]; omega
    · have hk16 : k = 16 := by omega
      subst hk16
      go_wp2
      go_ret
      exact ⟨_, rfl, hown, ho⟩

theorem Says.crash {F : Fs} {l : List Int} {fi so : Nat → ByteArray} {th : Nat → Bool} {k j : Nat} {fa fb : ByteArray} {b : Bool} (hs : Says (F.crashed l (fun x => decide ((k : Int) ≤ x))) fi so th) (hf : (F k).getD noFile = (fa, fb))
    (hj : j = (max 0 (min (keepOf l (k : Int)) (fb.size : Int))).toNat) (hb : b = ((F k).isSome && (!(fa ++ fb.extract 0 j).toList.isEmpty || fb.toList.isEmpty))) :
    Says (F.crashed l (fun x => decide (((k + 1 : Nat) : Int) ≤ x))) (upd fi k (fa ++ fb.extract 0 j)) so (upd th k b) := by
  have hle : j ≤ fb.size := by omega
  have old : ∀ i : Nat, i ≠ k → F.crashed l (fun x => decide (((k + 1 : Nat) : Int) ≤ x)) i = F.crashed l (fun x => decide ((k : Int) ≤ x)) i := by
    intro i hi
    unfold Fs.crashed
    by_cases h : (k : Int) ≤ (i : Int)
    · rw [if_pos (by simpa using (by omega : ((k + 1 : Nat) : Int) ≤ (i : Int))), if_pos (by simpa using h)]
    · rw [if_neg (by simpa using (by omega : (i : Int) < ((k + 1 : Nat) : Int))), if_neg (by simpa using h)]
  have hgone : F.crashed l (fun x => decide ((k : Int) ≤ x)) k = none := by
    unfold Fs.crashed
    rw [if_pos (by simp)]
  have hnew : F.crashed l (fun x => decide (((k + 1 : Nat) : Int) ≤ x)) k = match F k with | none => none | some f => leftFile f (keepOf l k) := by
    unfold Fs.crashed
    rw [if_neg (by simp; omega)]
    cases F k <;> rfl
  have hnew2 : (F.crashed l (fun x => decide (((k + 1 : Nat) : Int) ≤ x)) k).getD noFile = (fa ++ fb.extract 0 j, ByteArray.empty) ∧ (F.crashed l (fun x => decide (((k + 1 : Nat) : Int) ≤ x)) k).isSome = b := by
    rw [hnew]
    have hes : (fb.extract 0 j).size = j := by rw [ByteArray.size_extract]; omega
    cases hF : F k with
    | none =>
      rw [hF] at hf hb
      cases hf
      have hj0 : j = 0 := by have : (ByteArray.empty).size = 0 := rfl; omega
      subst hj0
      refine ⟨?_, by rw [hb]; rfl⟩
      show noFile = _
      unfold noFile
      rfl
    | some f =>
      rw [hF] at hf hb
      have hff : f = (fa, fb) := hf
      subst hff
      simp only
      unfold leftFile
      simp only
      rw [← hj]
      by_cases hg : fa.size = 0 ∧ j = 0 ∧ fb.size ≠ 0
      · obtain ⟨h1, h2, h3⟩ := hg
        rw [if_pos ⟨h1, h2, h3⟩]
        have he : (fa ++ fb.extract 0 j).size = 0 := by rw [ByteArray.size_append, hes]; omega
        refine ⟨?_, ?_⟩
        · rw [ByteArray.size_eq_zero_iff.1 he]; rfl
        · rw [hb, empty_of_size he, full_of_size h3]; rfl
      · rw [if_neg hg]
        refine ⟨rfl, ?_⟩
        rw [hb]
        by_cases h3 : fb.size = 0
        · rw [empty_of_size h3]; simp
        · have he : (fa ++ fb.extract 0 j).size ≠ 0 := by rw [ByteArray.size_append, hes]; omega
          rw [full_of_size he]; simp
  refine ⟨fun i hi => ?_, fun i hi => ?_, fun i hi => ?_⟩ <;> by_cases e : i = k
  · subst e; rw [hnew2.1]; simp [upd]
  · rw [old i e]; simp only [upd, if_neg e]; exact hs.firm i hi
  · subst e; rw [hnew2.1]
    have := hs.soft i hi
    rw [hgone] at this
    exact this
  · rw [old i e]; exact hs.soft i hi
  · subst e; rw [hnew2.2]; simp [upd]
  · rw [old i e]; simp only [upd, if_neg e]; exact hs.there i hi

end Go.Proofs.Ytdinkbmajcpnbaa
