/- The wheel in plain data: where a timer's place is as the time goes on; what is put, taken out, kept. -/
import Derived.Test.YtklpdkojffaiiaaPutA
import Derived.Test.YtklpdkojffaiiaaWheelT
namespace Go.Proofs.Ytklpdkojffaiiaa
namespace Wh
/-- lists that are yet to be passed down at time N, ring i and below being left -/
def pend (N : Nat) (i : Int) (q : Nat) : Prop := (2 ≤ i ∧ N % 2097152 = 0 ∧ q = 448) ∨ (1 ≤ i ∧ N % 8192 = 0 ∧ q = 192 + N / 8192 % 256) ∨ (0 ≤ i ∧ N % 64 = 0 ∧ q = 64 + N / 64 % 128)
theorem place_step {now due : Nat} (h : now < due) : place (now + 1) due = place now due ∨ pend (now + 1) 2 (place now due) := by
  unfold pend place
  by_cases a : due / 64 = now / 64
  · left
    rw [if_pos a, if_pos (by omega)]
  · rw [if_neg a]
    by_cases b : due / 8192 = now / 8192
    · rw [if_pos b]
      by_cases a' : due / 64 = (now + 1) / 64
      · right; right; right
        exact ⟨by decide, by omega, by rw [a']⟩
      · left
        rw [if_neg a', if_pos (by omega)]
    · rw [if_neg b]
      by_cases c : due / 2097152 = now / 2097152
      · rw [if_pos c]
        by_cases b' : due / 8192 = (now + 1) / 8192
        · right; right; left
          exact ⟨by decide, by omega, by rw [b']⟩
        · left
          rw [if_neg (by omega), if_neg b', if_pos (by omega)]
      · rw [if_neg c]
        by_cases c' : due / 2097152 = (now + 1) / 2097152
        · right; left
          exact ⟨by decide, by omega, rfl⟩
        · left
          rw [if_neg (by omega), if_neg (by omega), if_neg c']
/-- all timers -/
def allUpTo (L : Nat → List Tm) (n : Nat) : List Tm := (List.range n).flatMap L
def Wl.all (M : Wl) : List Tm := allUpTo M.L 449
theorem allUpTo_succ (L : Nat → List Tm) (n : Nat) : allUpTo L (n + 1) = allUpTo L n ++ L n := by
  unfold allUpTo; rw [List.range_succ, List.flatMap_append]; simp
theorem mem_all {M : Wl} {t : Tm} : t ∈ M.all ↔ ∃ q, q < 449 ∧ t ∈ M.L q := by
  unfold Wl.all allUpTo
  rw [List.mem_flatMap]
  simp
theorem allUpTo_same {L L' : Nat → List Tm} {n : Nat} (h : ∀ q, q < n → L' q = L q) : allUpTo L' n = allUpTo L n := by
  induction n with
  | zero => rfl
  | succ n ih => rw [allUpTo_succ, allUpTo_succ, ih (fun q hq => h q (by omega)), h n (by omega)]
theorem allUpTo_upd (L : Nat → List Tm) (q : Nat) (l : List Tm) : ∀ n, q < n → (allUpTo (fun i => if i = q then l else L i) n ++ L q).Perm (allUpTo L n ++ l)
  | 0, h => by omega
  | n + 1, h => by
    rw [allUpTo_succ, allUpTo_succ]
    by_cases e : q = n
    · subst e
      rw [if_pos rfl, allUpTo_same (L := L) (fun q' hq' => by rw [if_neg (by omega)]), List.append_assoc, List.append_assoc]
      exact List.Perm.append_left _ List.perm_append_comm
    · rw [if_neg (fun h => e h.symm)]
      have ih := allUpTo_upd L q l n (by omega)
      have h1 : (allUpTo (fun i => if i = q then l else L i) n ++ L n ++ L q).Perm (allUpTo (fun i => if i = q then l else L i) n ++ L q ++ L n) := by
        rw [List.append_assoc, List.append_assoc]; exact List.Perm.append_left _ List.perm_append_comm
      have h2 : (allUpTo L n ++ l ++ L n).Perm (allUpTo L n ++ L n ++ l) := by
        rw [List.append_assoc, List.append_assoc]; exact List.Perm.append_left _ List.perm_append_comm
      exact (h1.trans (ih.append_right _)).trans h2
theorem upd_perm (M : Wl) {q : Nat} (hq : q < 449) (l : List Tm) : ((M.upd q l).all ++ M.L q).Perm (M.all ++ l) := allUpTo_upd M.L q l 449 hq
/-- a list is taken out -/
theorem take_perm (M : Wl) {q : Nat} (hq : q < 449) : ((M.upd q []).all ++ M.L q).Perm M.all := by simpa using upd_perm M hq []
/-- one is put behind a list -/
theorem push_perm (M : Wl) {q : Nat} (hq : q < 449) (t : Tm) : (M.upd q (M.L q ++ [t])).all.Perm (M.all ++ [t]) := by
  have h := upd_perm M hq (M.L q ++ [t])
  rw [← List.append_assoc] at h
  have h2 : (M.all ++ M.L q ++ [t]).Perm (M.all ++ [t] ++ M.L q) := by
    rw [List.append_assoc, List.append_assoc]; exact List.Perm.append_left _ List.perm_append_comm
  exact (List.perm_append_right_iff _).1 (h.trans h2)
theorem len_le_all (M : Wl) {q : Nat} (hq : q < 449) : (M.L q).length ≤ M.all.length := by
  have := (take_perm M hq).length_eq
  simp at this
  omega
/-- one is lost -/
theorem erase_perm (M : Wl) {q i : Nat} (hq : q < 449) (hi : i < (M.L q).length) : ((M.L q).getD i Tm.zero :: (M.upd q ((M.L q).eraseIdx i)).all).Perm M.all := by
  have h := upd_perm M hq ((M.L q).eraseIdx i)
  have hg : (M.L q).getD i Tm.zero = (M.L q)[i] := by rw [List.getD_eq_getElem?_getD, List.getElem?_eq_getElem hi]; rfl
  have h3 : ((M.L q)[i] :: (M.L q).eraseIdx i).Perm (M.L q) := by
    rw [List.eraseIdx_eq_take_drop_succ]
    have e : M.L q = (M.L q).take i ++ (M.L q)[i] :: (M.L q).drop (i + 1) := by
      rw [← List.drop_eq_getElem_cons hi, List.take_append_drop]
    conv => rhs; rw [e]
    exact List.perm_middle.symm
  rw [hg]
  have h4 : ((M.upd q ((M.L q).eraseIdx i)).all ++ M.L q).Perm ((M.upd q ((M.L q).eraseIdx i)).all ++ ((M.L q)[i] :: (M.L q).eraseIdx i)) := List.Perm.append_left _ h3.symm
  have h5 := h4.symm.trans h
  have h6 : ((M.upd q ((M.L q).eraseIdx i)).all ++ ((M.L q)[i] :: (M.L q).eraseIdx i)).Perm (((M.L q)[i] :: (M.upd q ((M.L q).eraseIdx i)).all) ++ (M.L q).eraseIdx i) := by
    rw [List.cons_append]; exact List.perm_middle
  exact (List.perm_append_right_iff _).1 (h6.symm.trans h5)
/-- what the time's passing keeps true: ring i and below are left to be passed down -/
structure Mid (N : Nat) (i : Int) (M Mi : Wl) : Prop where
  now : Mi.now = N
  turn : Mi.turn = M.turn
  n : Mi.n = M.n
  perm : Mi.all.Perm M.all
  at_ : ∀ q, q < 449 → ∀ t ∈ Mi.L q, place N t.due = q ∨ pend N i q
theorem Mid.skip {N : Nat} {i : Int} {M Mi : Wl} (h : Mid N i M Mi) (hs : ∀ q, pend N i q → pend N (i - 1) q) : Mid N (i - 1) M Mi :=
  ⟨h.now, h.turn, h.n, h.perm, fun q hq t ht => (h.at_ q hq t ht).imp id (hs q)⟩
/-- .. while the list q0 is passed down: so many are put -/
structure Down (N : Nat) (i : Int) (M : Wl) (L : List Tm) (k : Nat) (Mk : Wl) : Prop where
  now : Mk.now = N
  turn : Mk.turn = M.turn
  n : Mk.n = M.n
  perm : (Mk.all ++ L.drop k).Perm M.all
  at_ : ∀ q, q < 449 → ∀ t ∈ Mk.L q, place N t.due = q ∨ pend N i q
theorem Down.start {N : Nat} {i : Int} {M Mi : Wl} {q0 : Nat} (hq : q0 < 449) (h : Mid N i M Mi) (hs : ∀ q, q ≠ q0 → pend N i q → pend N (i - 1) q) : Down N (i - 1) M (Mi.L q0) 0 (Mi.upd q0 []) :=
  ⟨h.now, h.turn, h.n, by rw [List.drop_zero]; exact (take_perm Mi hq).trans h.perm, fun q hq' t ht => by
    simp only [Wl.upd] at ht
    by_cases e : q = q0
    · rw [if_pos e] at ht; cases ht
    · rw [if_neg e] at ht
      exact (h.at_ q hq' t ht).imp id (hs q e)⟩
theorem Down.step {N : Nat} {i : Int} {M Mk : Wl} {L : List Tm} {k : Nat} (h : Down N i M L k Mk) (hk : k < L.length) : Down N i M L (k + 1) (Mk.upd (place N (L.getD k Tm.zero).due) (Mk.L (place N (L.getD k Tm.zero).due) ++ [L.getD k Tm.zero])) := by
  refine ⟨h.now, h.turn, h.n, ?_, fun q hq t ht => ?_⟩
  · have hd : L.drop k = L.getD k Tm.zero :: L.drop (k + 1) := by
      rw [List.getD_eq_getElem?_getD, List.getElem?_eq_getElem hk]
      exact List.drop_eq_getElem_cons hk
    have h1 := (push_perm Mk (place_lt N (L.getD k Tm.zero).due) (L.getD k Tm.zero)).append_right (L.drop (k + 1))
    refine h1.trans ?_
    rw [List.append_assoc, List.singleton_append, ← hd]
    exact h.perm
  · simp only [Wl.upd] at ht
    split at ht
    · rename_i e
      rcases List.mem_append.1 ht with ht | ht
      · rw [← e] at ht; exact h.at_ q hq t ht
      · simp at ht; subst ht; exact .inl e.symm
    · exact h.at_ q hq t ht
theorem Down.done {N : Nat} {i : Int} {M Mk : Wl} {L : List Tm} (h : Down N i M L L.length Mk) : Mid N i M Mk :=
  ⟨h.now, h.turn, h.n, by simpa using h.perm, h.at_⟩
theorem Down.room {N : Nat} {i : Int} {M Mk : Wl} {L : List Tm} {k : Nat} (h : Down N i M L k Mk) {q : Nat} (hq : q < 449) : (Mk.L q).length ≤ M.all.length := by
  have h1 := len_le_all Mk hq
  have h2 := h.perm.length_eq
  simp at h2
  omega
theorem Mid.begin {M : Wl} (h : ∀ q, q < 449 → ∀ t ∈ M.L q, M.now < t.due ∧ place M.now t.due = q) : Mid (M.now + 1) 2 M { M with now := M.now + 1 } :=
  ⟨rfl, rfl, rfl, .refl _, fun q hq t ht => by
    obtain ⟨h1, h2⟩ := h q hq t ht
    have := place_step h1
    rw [h2] at this
    exact this⟩
end Wh
end Go.Proofs.Ytklpdkojffaiiaa
