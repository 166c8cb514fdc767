/- The document's disk: Files, Crash; the comparison of two lists of numbers. -/
import Derived.Test.YtdinkbmajcpnbaaRef4B
namespace Go.Proofs.Ytdinkbmajcpnbaa
open Go.RowKit Go.Maps

theorem Ints.read {w : World} {base : Nat} {v : Value} {l : List Int} (h : Ints w base v l) (hl : l.length ≤ maxLen) (hw : ∀ x ∈ l, (Lit.int .i64 x).wf = true) : ∃ ao cap, v = .slice ao l.length cap ∧ IntsIn w ao l := by
  have h0 := h
  unfold Ints at h0
  rcases h.2 with ⟨rfl, h1⟩ | ⟨g, cap, cur, rfl, _⟩
  · have : l = [] := List.length_eq_zero_iff.1 h1
    subst this
    exact ⟨none, 0, rfl, hw, hl, fun i hi => absurd hi (by simp)⟩
  · refine ⟨_, cap, rfl, hw, hl, fun i hi => ⟨g, 0, rfl, ?_⟩⟩
    rw [Nat.zero_add, h0.cellAt i (by omega), List.getElem?_map, List.getElem?_eq_getElem hi]
    simp [List.getD, hi]
theorem list_range (F : Fs) : ∀ k, ∀ x ∈ F.list k, 0 ≤ x ∧ x < (k : Int)
  | 0, x, h => by simp [Fs.list] at h
  | k + 1, x, h => by
    unfold Fs.list at h
    rcases List.mem_append.1 h with h | h
    · have := list_range F k x h; omega
    · split at h
      · simp at h; omega
      · simp at h
theorem Ints.files {w : World} {base : Nat} {v : Value} {F : Fs} (h : Ints w base v (F.list 16)) : ∃ ao cap, v = .slice ao (F.list 16).length cap ∧ IntsIn w ao (F.list 16) :=
  h.read (by have := list_len F 16; unfold maxLen; omega) (fun x hx => by have := list_range F 16 x hx; exact wf_small (by omega) (by omega))
theorem IntsIn.keeps {S : Nat → Prop} {w w' : World} {ao : Option Addr} {l : List Int} (h : IntsIn w ao l) (ho : Only S w w') (hs : ∀ a, ao = some a → ¬ S a.block) : IntsIn w' ao l :=
  ⟨h.wf, h.len, fun i hi => by
    obtain ⟨b, off, e, hc⟩ := h.cell i hi
    exact ⟨b, off, e, keeps_cell (a := ⟨b, off + i, none⟩) ho (hs ⟨b, off, none⟩ e) hc⟩⟩

theorem rfiles_at (w : World) (r : Nat) (M : DM) (h : RefAt w r M) :
    Calls Try.prog 25 #[.pointer (some ⟨r, 0, none⟩)] w fun e w' => ∃ v, e = .returned v ∧ Ints w' w.heap.size v (M.files.list 16) ∧ Only NoBlock w w' := by
  obtain ⟨i0, hi, hz0, hz1, hz2⟩ := info_parts Dk.info_int
  go_enter Try.func25, Try.ntmps25
  go_wp2
  go_loopw [3, 4] (fun v i wr => ∃ k : Nat, k ≤ 16 ∧ i = .int .i64 k ∧ Ints wr w.heap.size v (M.files.list k) ∧ Only NoBlock w wr) (fun _ i _ => 16 - (intOf i).toNat)
  case atStart => exact ⟨0, by omega, rfl, World.ownsRow_nil _ _ _ _, Only.refl _ _⟩
  case round =>
    obtain ⟨k, hk, rfl, hown, ho⟩ := hrel
    unfold Ints at hown
    have hd := h.keeps ho (fun h => h)
    have hws := ho.size
    by_cases hlt : k < 16
    · have c := hd.cThere hlt
      have hll := list_len M.files k
      cases hth : (M.files k).isSome with
      | false =>
        rw [hth] at c
        go_wp2
        go_roundw
        case rel => exact ⟨k + 1, by omega, by go_num, by unfold Fs.list Ints; rw [hth]; simpa using hown, ho⟩
        case measure => simp [intOf]; omega
      | true =>
        rw [hth] at c
        go_wp2_with (first
          | (at_builtin; refine wpList_append_own _ rfl _ _ 32 rfl w.heap.size 3 i0 (.int .i64 0) 1 8 Dk.u_ints hi hz0 hz1 hz2 rfl (by decide) _ _ _ rfl (World.ownsRow.alloc hown _) ⟨wr.heap.size, 0, none⟩ 1 1 [.int .i64 (k : Int)] rfl rfl ?_ ?_ ?_ ?_ ?_ ?_; (exact cell_one_at _ _ _ _ (by simp)); (simp [Value.oneCell']); (unfold maxLen; omega); omega; (simp; omega); intro v' w1 hown' hgrow _))
        go_roundw
        case rel =>
          have hn3 : Only NoBlock w w1 := (ho.alloc _).appended (hown.alloc _) (Nat.le_refl _) hgrow
          exact ⟨k + 1, by omega, by go_num, by unfold Fs.list Ints; rw [hth]; simpa using hown', hn3⟩
        case measure => simp [intOf]; omega
    · have hk16 : k = 16 := by omega
      subst hk16
      go_wp2
      go_ret
      exact ⟨_, rfl, hown, ho⟩

theorem ints_at (w : World) (ao bo : Option Addr) (ca cb : Nat) (l m : List Int) (ha : IntsIn w ao l) (hb : IntsIn w bo m) :
    Calls Try.prog 20 #[.slice ao l.length ca, .slice bo m.length cb] w fun e w' => e = .returned (.bool (decide (l = m))) ∧ ∃ q, w' = w.drewN q := by
  have hla := ha.len
  have hlb := hb.len
  unfold maxLen at hla hlb
  by_cases hlen : l.length = m.length
  · have HL := Lib.hid hlen
    have h1 : ((l.length : Int) != (m.length : Int)) = false := by simp [hlen]
    clear hlen
    go_enter Try.func20, Try.ntmps20
    go_wp2
    clear h1
    go_loopw [5] (fun i wr => ∃ (k q : Nat), k ≤ l.length ∧ i = .int .i64 k ∧ l.take k = m.take k ∧ wr = w.drewN q) (fun i _ => l.length - (intOf i).toNat)
    case atStart => exact ⟨0, 0, by omega, rfl, rfl, rfl⟩
    case round =>
      obtain ⟨k, q, hk, rfl, htk, rfl⟩ := hrel
      have HT := Lib.hid htk
      clear htk
      by_cases hlt : k < l.length
      · have hlt2 : k < m.length := by have := HL.out; omega
        obtain ⟨b1, o1, rfl, c1⟩ := ha.cell k hlt
        obtain ⟨b2, o2, rfl, c2⟩ := hb.cell k hlt2
        obtain ⟨x, hx⟩ : ∃ x, l.getD k 0 = x := ⟨_, rfl⟩
        obtain ⟨y, hy⟩ : ∃ y, m.getD k 0 = y := ⟨_, rfl⟩
        rw [hx] at c1
        rw [hy] at c2
        have e1 : l[k]? = some x := by rw [List.getElem?_eq_getElem hlt]; rw [← hx]; simp [List.getD, hlt]
        have e2 : m[k]? = some y := by rw [List.getElem?_eq_getElem hlt2]; rw [← hy]; simp [List.getD, hlt2]
        have E1 := Lib.hid e1
        have E2 := Lib.hid e2
        clear hx hy e1 e2 ha hb
        by_cases hxy : x = y
        · subst hxy
          go_wp2_with fail
          go_quiet (fail)
          go_wp2_with fail
          go_roundw
          case rel =>
            refine ⟨k + 1, _, by omega, by go_num, ?_, rfl⟩
            rw [List.take_add_one, List.take_add_one, HT.out, E1.out, E2.out]
          case measure => simp [intOf]; omega
        · have hne : (x != y) = true := by simp [hxy]
          have HN := Lib.hid hxy
          clear hxy
          go_wp2_with fail
          go_quiet (fail)
          go_wp2_with fail
          go_ret
          refine ⟨?_, _, World.drewN_drewN _ _ _⟩
          have : l ≠ m := by
            intro e
            have := E1.out
            rw [e, E2.out] at this
            cases this
            exact HN.out rfl
          simp [this]
      · have hkl : k = l.length := by omega
        subst hkl
        go_wp2
        go_ret
        refine ⟨?_, q, rfl⟩
        have : l = m := by
          have h1 := HT.out
          rw [List.take_length, HL.out, List.take_length] at h1
          exact h1
        simp [this]
  · have h1 : ((l.length : Int) != (m.length : Int)) = true := by simp; omega
    have hne : l ≠ m := fun e => hlen (by rw [e])
    have HN := Lib.hid hne
    clear hlen hne
    go_enter Try.func20, Try.ntmps20
    go_wp2
    go_ret
    exact ⟨by simp [HN.out], 0, rfl⟩

theorem Says.crash {F : Fs} {l : List Int} {fi so : Nat → ByteArray} {th : Nat → Bool} {k j : Nat} {fa fb : ByteArray} {b : Bool} (hs : Says (F.crashed l (fun x => decide ((k : Int) ≤ x))) fi so th) (hf : (F k).getD noFile = (fa, fb))
    (hj : j = (max 0 (min (keepOf l (k : Int)) (fb.size : Int))).toNat) (hb : b = ((F k).isSome && (!(fa ++ fb.extract 0 j).toList.isEmpty || fb.toList.isEmpty))) :
    Says (F.crashed l (fun x => decide (((k + 1 : Nat) : Int) ≤ x))) (upd fi k (fa ++ fb.extract 0 j)) so (upd th k b) := by
  have hle : j ≤ fb.size := by omega
  have old : ∀ i : Nat, i ≠ k → F.crashed l (fun x => decide (((k + 1 : Nat) : Int) ≤ x)) i = F.crashed l (fun x => decide ((k : Int) ≤ x)) i := by
    intro i hi
    unfold Fs.crashed
    by_cases h : (k : Int) ≤ (i : Int)
    · rw [if_pos (by simpa using (by omega : ((k + 1 : Nat) : Int) ≤ (i : Int))), if_pos (by simpa using h)]
    · rw [if_neg (by simpa using (by omega : (i : Int) < ((k + 1 : Nat) : Int))), if_neg (by simpa using h)]
  have hgone : F.crashed l (fun x => decide ((k : Int) ≤ x)) k = none := by
    unfold Fs.crashed
    rw [if_pos (by simp)]
  have hnew : F.crashed l (fun x => decide (((k + 1 : Nat) : Int) ≤ x)) k = match F k with | none => none | some f => leftFile f (keepOf l k) := by
    unfold Fs.crashed
    rw [if_neg (by simp; omega)]
    cases F k <;> rfl
  have hnew2 : (F.crashed l (fun x => decide (((k + 1 : Nat) : Int) ≤ x)) k).getD noFile = (fa ++ fb.extract 0 j, ByteArray.empty) ∧ (F.crashed l (fun x => decide (((k + 1 : Nat) : Int) ≤ x)) k).isSome = b := by
    rw [hnew]
    have hes : (fb.extract 0 j).size = j := by rw [ByteArray.size_extract]; omega
    cases hF : F k with
    | none =>
      rw [hF] at hf hb
      cases hf
      have hj0 : j = 0 := by have : (ByteArray.empty).size = 0 := rfl; omega
      subst hj0
      refine ⟨?_, by rw [hb]; rfl⟩
      show noFile = _
      unfold noFile
      rfl
    | some f =>
      rw [hF] at hf hb
      have hff : f = (fa, fb) := hf
      subst hff
      simp only
      unfold leftFile
      simp only
      rw [← hj]
      by_cases hg : fa.size = 0 ∧ j = 0 ∧ fb.size ≠ 0
      · obtain ⟨h1, h2, h3⟩ := hg
        rw [if_pos ⟨h1, h2, h3⟩]
        have he : (fa ++ fb.extract 0 j).size = 0 := by rw [ByteArray.size_append, hes]; omega
        refine ⟨?_, ?_⟩
        · rw [ByteArray.size_eq_zero_iff.1 he]; rfl
        · rw [hb, empty_of_size he, full_of_size h3]; rfl
      · rw [if_neg hg]
        refine ⟨rfl, ?_⟩
        rw [hb]
        by_cases h3 : fb.size = 0
        · rw [empty_of_size h3]; simp
        · have he : (fa ++ fb.extract 0 j).size ≠ 0 := by rw [ByteArray.size_append, hes]; omega
          rw [full_of_size he]; simp
  refine ⟨fun i hi => ?_, fun i hi => ?_, fun i hi => ?_⟩ <;> by_cases e : i = k
  · subst e; rw [hnew2.1]; simp [upd]
  · rw [old i e]; simp only [upd, if_neg e]; exact hs.firm i hi
  · subst e; rw [hnew2.1]
    have := hs.soft i hi
    rw [hgone] at this
    exact this
  · rw [old i e]; exact hs.soft i hi
  · subst e; rw [hnew2.2]; simp [upd]
  · rw [old i e]; simp only [upd, if_neg e]; exact hs.there i hi

end Go.Proofs.Ytdinkbmajcpnbaa
