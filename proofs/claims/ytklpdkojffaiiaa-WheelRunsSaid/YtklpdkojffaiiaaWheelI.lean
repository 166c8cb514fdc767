/- The wheel as a list of timers in the order in which they were set. -/
import Derived.Test.YtklpdkojffaiiaaWheelP
import Derived.Test.YtklpdkojffaiiaaSet
namespace Go.Proofs.Ytklpdkojffaiiaa
open Go.RowKit
namespace Wh
/-- the wheel M holds the timers A, in the order in which they were set -/
structure Inv (M : Wl) (A : List Tm) : Prop where
  perm : M.all.Perm A
  at_ : ∀ q, q < 449 → ∀ t ∈ M.L q, M.now < t.due ∧ place M.now t.due = q
  n : M.n = A.length
  size : A.length ≤ 64
  ids : (A.map (·.id)).Nodup
  srt : A.Pairwise (fun x y => x.turn < y.turn)
  turns : ∀ t ∈ A, t.turn ≤ M.turn
  t0 : 0 ≤ M.turn
def hasA (A : List Tm) (id : Int) : Bool := A.any (fun t => decide (t.id = id))
def dropA (A : List Tm) (id : Int) : List Tm := A.filter (fun t => !decide (t.id = id))
/-- set: the list, what is answered, the turn -/
def setA (A : List Tm) (now : Nat) (turn id d : Int) : List Tm × Int × Int :=
  if 1 ≤ d ∧ d ≤ 1048576 then (if hasA A id = false ∧ A.length = 64 then (A, 11, turn) else (dropA A id ++ [⟨id, now + d.toNat, turn + 1⟩], 0, turn + 1)) else (A, 1, turn)
def dueA (A : List Tm) (now : Nat) : List Tm := A.filter (fun t => decide (t.due = now))
def restA (A : List Tm) (now : Nat) : List Tm := A.filter (fun t => !decide (t.due = now))
theorem Inv.now_lt {M : Wl} {A : List Tm} (h : Inv M A) {t : Tm} (ht : t ∈ A) : M.now < t.due := by
  obtain ⟨q, hq, hm⟩ := mem_all.1 (h.perm.mem_iff.2 ht)
  exact (h.at_ q hq t hm).1
theorem Inv.has {M : Wl} {A : List Tm} (h : Inv M A) (id : Int) : M.has id = hasA A id := by
  unfold Wl.has hasA
  rw [Bool.eq_iff_iff, List.any_eq_true, List.any_eq_true]
  constructor
  · rintro ⟨q, hq, hb⟩
    obtain ⟨t, ht, hd⟩ := List.any_eq_true.1 hb
    exact ⟨t, h.perm.mem_iff.1 (mem_all.2 ⟨q, List.mem_range.1 hq, ht⟩), hd⟩
  · rintro ⟨t, ht, hd⟩
    obtain ⟨q, hq, hm⟩ := mem_all.1 (h.perm.mem_iff.2 ht)
    exact ⟨q, List.mem_range.2 hq, List.any_eq_true.2 ⟨t, hm, hd⟩⟩
/-- of two perms without doubles, the sorted ones are one -/
theorem sorted_eq {A B : List Tm} (hp : A.Perm B) (ha : A.Pairwise (fun x y => x.turn < y.turn)) (hb : B.Pairwise (fun x y => x.turn < y.turn)) : A = B :=
  List.Perm.eq_of_pairwise (le := fun x y => x.turn < y.turn) (fun x y _ _ h1 h2 => absurd h1 (by omega)) ha hb hp
theorem dropA_none {A : List Tm} {id : Int} (h : hasA A id = false) : dropA A id = A := by
  unfold dropA
  rw [List.filter_eq_self]
  intro t ht
  unfold hasA at h
  rw [List.any_eq_false] at h
  simpa using h t ht
/-- one is lost: what is left is what has another number -/
theorem drop_perm {A : List Tm} {t : Tm} {R : List Tm} (hn : (A.map (·.id)).Nodup) (hp : (t :: R).Perm A) : R.Perm (dropA A t.id) := by
  have hn' : ((t :: R).map (·.id)).Nodup := (hp.map (·.id)).nodup_iff.2 hn
  have hf := hp.filter (fun x => !decide (x.id = t.id))
  rw [List.map_cons, List.nodup_cons] at hn'
  rw [List.filter_cons] at hf
  simp only [decide_true, Bool.not_true, Bool.false_eq_true, if_false] at hf
  have : R.filter (fun x => !decide (x.id = t.id)) = R := by
    rw [List.filter_eq_self]
    intro x hx
    have : x.id ≠ t.id := fun e => hn'.1 (by rw [← e]; exact List.mem_map.2 ⟨x, hx, rfl⟩)
    simpa using this
  rw [this] at hf
  exact hf
theorem dropA_len {A : List Tm} {id : Int} (hn : (A.map (·.id)).Nodup) (h : hasA A id = true) : (dropA A id).length + 1 = A.length := by
  obtain ⟨t, ht, hd⟩ := List.any_eq_true.1 h
  obtain ⟨R, hR⟩ : ∃ R, (t :: R).Perm A := by
    obtain ⟨s, r, e⟩ := List.append_of_mem ht
    exact ⟨s ++ r, by rw [e]; exact List.perm_middle.symm⟩
  have hid : t.id = id := by simpa using hd
  have := (drop_perm hn hR).length_eq
  rw [hid] at this
  have h2 := hR.length_eq
  simp at h2
  omega
theorem Inv.stopped {M M' : Wl} {A : List Tm} {id : Int} {b : Bool} (h : Inv M A) (hs : Stopped M id M' b) : b = hasA A id ∧ Inv M' (dropA A id) ∧ M'.now = M.now ∧ M'.turn = M.turn := by
  rcases hs with ⟨rfl, h1, rfl⟩ | ⟨rfl, q, i, hq, hi, hid, rfl⟩
  · rw [h.has] at h1
    exact ⟨h1.symm, by rw [dropA_none h1]; exact h, rfl, rfl⟩
  · have hp := (erase_perm M hq hi).trans h.perm
    have hd := drop_perm h.ids hp
    rw [hid] at hd
    have hA : hasA A id = true := List.any_eq_true.2 ⟨_, hp.mem_iff.1 (List.mem_cons_self ..), by simpa using hid⟩
    refine ⟨hA.symm, ⟨hd, fun q' hq' t ht => ?_, ?_, ?_, ?_, ?_, fun t ht => h.turns t (List.mem_filter.1 ht).1, h.t0⟩, rfl, rfl⟩
    · simp only [Wl.upd] at ht
      split at ht
      · rename_i e; subst e; exact h.at_ q' hq' t (List.mem_of_mem_eraseIdx ht)
      · exact h.at_ q' hq' t ht
    · have := dropA_len h.ids hA
      have := h.n
      show M.n - 1 = _
      omega
    · have := dropA_len h.ids hA
      have := h.size
      omega
    · exact h.ids.sublist (List.Sublist.map _ List.filter_sublist)
    · exact h.srt.sublist List.filter_sublist
theorem Inv.puts {M : Wl} {A : List Tm} {id : Int} {d : Nat} (h : Inv M A) (hd : 1 ≤ d) (hid : hasA A id = false) (hz : A.length < 64) : Inv (M.puts id d) (A ++ [⟨id, M.now + d, M.turn + 1⟩]) := by
  have hpl := place_lt M.now (M.now + d)
  refine ⟨?_, fun q hq t ht => ?_, ?_, ?_, ?_, ?_, ?_, ?_⟩
  · exact (push_perm { M with turn := M.turn + 1, n := M.n + 1 } hpl ⟨id, M.now + d, M.turn + 1⟩).trans (h.perm.append_right _)
  · simp only [Wl.puts, Wl.upd] at ht
    show M.now < t.due ∧ place M.now t.due = q
    split at ht
    · rename_i e
      rcases List.mem_append.1 ht with ht | ht
      · rw [← e] at ht; exact h.at_ q hq t ht
      · simp at ht; subst ht; exact ⟨by show M.now < M.now + d; omega, e.symm⟩
    · exact h.at_ q hq t ht
  · have := h.n
    show M.n + 1 = _
    simp; omega
  · simp; omega
  · rw [List.map_append, List.nodup_append]
    refine ⟨h.ids, by simp, ?_⟩
    intro a ha b hb
    simp at hb
    subst hb
    rintro rfl
    obtain ⟨t, ht, rfl⟩ := List.mem_map.1 ha
    unfold hasA at hid
    rw [List.any_eq_false] at hid
    simpa using hid t ht
  · rw [List.pairwise_append]
    refine ⟨h.srt, by simp, fun x hx y hy => ?_⟩
    simp at hy
    subst hy
    have := h.turns x hx
    show x.turn < M.turn + 1
    omega
  · intro t ht
    show t.turn ≤ M.turn + 1
    rcases List.mem_append.1 ht with ht | ht
    · have := h.turns t ht; omega
    · simp at ht; subst ht; exact Int.le_refl _
  · have := h.t0
    show 0 ≤ M.turn + 1
    omega
theorem hasA_drop (A : List Tm) (id : Int) : hasA (dropA A id) id = false := by
  unfold hasA
  rw [List.any_eq_false]
  intro t ht
  have := (List.mem_filter.1 ht).2
  simpa using this
theorem Inv.sets {M M' : Wl} {A : List Tm} {id d c : Int} (h : Inv M A) (hs : Sets M id d M' c) : c = (setA A M.now M.turn id d).2.1 ∧ Inv M' (setA A M.now M.turn id d).1 ∧ M'.now = M.now ∧ M'.turn = (setA A M.now M.turn id d).2.2 := by
  have hn := h.n
  unfold setA
  rcases hs with ⟨h1, rfl, rfl⟩ | ⟨h1, ⟨h2, h3, rfl, rfl⟩ | ⟨M1, h2, rfl, rfl⟩⟩
  · rw [if_neg h1]
    exact ⟨rfl, h, rfl, rfl⟩
  · rw [if_pos h1, if_pos ⟨by rw [← h.has]; exact h2, by omega⟩]
    exact ⟨rfl, h, rfl, rfl⟩
  · rw [if_pos h1]
    rcases h2 with ⟨h3, h4⟩ | ⟨h3, h4, rfl⟩
    · rw [h.has] at h3
      obtain ⟨_, hi, e1, e2⟩ := h.stopped h4
      rw [if_neg (by rw [h3]; simp)]
      have hl := dropA_len h.ids h3
      have hz := h.size
      have hp := hi.puts (d := d.toNat) (by omega) (hasA_drop A id) (by omega)
      rw [e1, e2] at hp
      exact ⟨rfl, hp, e1, by show M1.turn + 1 = _; rw [e2]⟩
    · rw [h.has] at h3
      have hl : A.length < 64 := by have := h.size; omega
      rw [if_neg (by omega), dropA_none h3]
      exact ⟨rfl, h.puts (by omega) h3 hl, rfl, rfl⟩
theorem filter_len (A : List Tm) (f : Tm → Bool) : (A.filter f).length + (A.filter (fun t => !f t)).length = A.length := by
  induction A with
  | nil => rfl
  | cons t r ih =>
    rw [List.filter_cons, List.filter_cons]
    cases f t <;> simp <;> omega
theorem Inv.ticks {M M2 : Wl} {A l : List Tm} (h : Inv M A) (hm : Mid (M.now + 1) (-1) M M2) (hl : l.Perm (M2.L ((M.now + 1) % 64))) (hso : l.Pairwise (fun x y => x.turn ≤ y.turn)) :
    l = dueA A (M.now + 1) ∧ Inv { M2.upd ((M.now + 1) % 64) [] with n := M2.n - l.length } (restA A (M.now + 1)) := by
  have hq : (M.now + 1) % 64 < 449 := by omega
  have hat : ∀ q, q < 449 → ∀ t ∈ M2.L q, place (M.now + 1) t.due = q := fun q hq t ht => (hm.at_ q hq t ht).resolve_right (by unfold pend; omega)
  have hpA : M2.all.Perm A := hm.perm.trans h.perm
  have hlt : ∀ q, q < 449 → ∀ t ∈ M2.L q, M.now < t.due := fun q hq t ht => h.now_lt (hpA.mem_iff.1 (mem_all.2 ⟨q, hq, ht⟩))
  have hsp := (take_perm M2 hq).trans hpA
  -- what lies in that list is due
  have hin : ∀ t ∈ M2.L ((M.now + 1) % 64), t.due = M.now + 1 := fun t ht => by
    have h1 := hat _ hq t ht
    have h2 := hlt _ hq t ht
    unfold place at h1
    split at h1
    · omega
    split at h1
    · omega
    split at h1 <;> omega
  have hout : ∀ t ∈ (M2.upd ((M.now + 1) % 64) []).all, t.due ≠ M.now + 1 := fun t ht e => by
    obtain ⟨q, hq', hm'⟩ := mem_all.1 ht
    simp only [Wl.upd] at hm'
    split at hm'
    · cases hm'
    · rename_i hne
      have h1 := hat q hq' t hm'
      rw [e] at h1
      unfold place at h1
      rw [if_pos rfl] at h1
      exact hne h1.symm
  have f1 : ((M2.upd ((M.now + 1) % 64) []).all ++ M2.L ((M.now + 1) % 64)).filter (fun t => decide (t.due = M.now + 1)) = M2.L ((M.now + 1) % 64) := by
    rw [List.filter_append, List.filter_eq_nil_iff.2 (fun t ht => by simpa using hout t ht), List.filter_eq_self.2 (fun t ht => by simpa using hin t ht), List.nil_append]
  have f2 : ((M2.upd ((M.now + 1) % 64) []).all ++ M2.L ((M.now + 1) % 64)).filter (fun t => !decide (t.due = M.now + 1)) = (M2.upd ((M.now + 1) % 64) []).all := by
    rw [List.filter_append, List.filter_eq_self.2 (fun t ht => by simpa using hout t ht), List.filter_eq_nil_iff.2 (fun t ht => by simpa using hin t ht), List.append_nil]
  have p1 := hsp.filter (fun t => decide (t.due = M.now + 1))
  have p2 := hsp.filter (fun t => !decide (t.due = M.now + 1))
  rw [f1] at p1
  rw [f2] at p2
  have hlp : l.Perm (dueA A (M.now + 1)) := hl.trans p1
  have hs2 : (dueA A (M.now + 1)).Pairwise (fun x y => x.turn < y.turn) := h.srt.sublist List.filter_sublist
  have hl2 : l.Pairwise (fun x y => x.turn < y.turn) := by
    have hnd : l.Pairwise (fun x y => x.turn ≠ y.turn) := by
      refine (hlp.symm.pairwise_iff (fun h => Ne.symm h)).1 (hs2.imp (fun h => by omega))
    exact (hso.and hnd).imp (fun h => by omega)
  have hle : l = dueA A (M.now + 1) := sorted_eq hlp hl2 hs2
  have hlen : (dueA A (M.now + 1)).length + (restA A (M.now + 1)).length = A.length := by
    unfold dueA restA
    exact filter_len A _
  refine ⟨hle, p2, fun q hq' t ht => ?_, ?_, ?_, ?_, ?_, ?_, ?_⟩
  · have hmem : t ∈ (M2.upd ((M.now + 1) % 64) []).all := mem_all.2 ⟨q, hq', ht⟩
    have hne := hout t hmem
    simp only [Wl.upd] at ht
    show M2.now < t.due ∧ place M2.now t.due = q
    rw [hm.now]
    split at ht
    · cases ht
    · have := hlt q hq' t ht
      exact ⟨by omega, hat q hq' t ht⟩
  · show M2.n - (l.length : Int) = _
    rw [hm.n, h.n, hle]
    omega
  · have := h.size; omega
  · exact h.ids.sublist (List.Sublist.map _ List.filter_sublist)
  · exact h.srt.sublist List.filter_sublist
  · intro t ht
    show t.turn ≤ M2.turn
    rw [hm.turn]
    exact h.turns t (List.mem_filter.1 ht).1
  · show 0 ≤ M2.turn
    rw [hm.turn]; exact h.t0
theorem Inv.nil : Inv ⟨0, 0, 0, fun _ => []⟩ [] := by
  refine ⟨?_, fun q _ t ht => (by cases ht), rfl, (by simp), (by simp), .nil, fun t ht => (by cases ht), (by decide)⟩
  have : (Wl.all ⟨0, 0, 0, fun _ => []⟩) = [] := by
    unfold Wl.all allUpTo
    simp
  rw [this]
end Wh
end Go.Proofs.Ytklpdkojffaiiaa
