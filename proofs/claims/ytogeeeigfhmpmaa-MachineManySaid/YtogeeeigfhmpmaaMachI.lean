/- What holds of every machine: a new one has it, and each command keeps it (plain data). -/
import Derived.Test.YtogeeeigfhmpmaaMachS
namespace Go.Proofs.Ytogeeeigfhmpmaa
namespace Mc
open Pk
theorem Rep.Ok.lit {e : Int} (h0 : 0 ≤ e) (h1 : e ≤ 52) : Rep.Ok ⟨e, 0, 0⟩ := ⟨h0, h1, by show 0 < _; decide, by show 0 < _; decide⟩
theorem Tab.new_ok : Tab.new.Ok := ⟨by decide, by decide, by decide, by decide, List.Pairwise.nil, by simp [Tab.new], by simp [Tab.new], by simp [Tab.new], by simp [Tab.new]⟩
theorem Mach.new_ok : Mach.new.Ok := ⟨Tab.new_ok, by decide, List.Pairwise.nil, by simp [Mach.new], fun i => by simp [Mach.new], fun i s h => by cases h⟩
theorem Tab.Ok.clock {t : Tab} (h : t.Ok) {now : Nat} (hn : now < 18446744073709551616) : (t.clock now).Ok := by
  unfold Tab.clock
  split
  · exact h
  · rename_i hlt
    have hs : (t.rows.filter (fun x => decide (now - x.used ≤ 1000))).Sublist t.rows := List.filter_sublist
    exact ⟨hn, h.next, h.next0, Nat.le_trans hs.length_le h.len, h.asc.sublist hs, fun x hx => h.rows x (hs.subset hx), fun x hx => h.below x (hs.subset hx),
      fun x hx => by have := h.used x (hs.subset hx); show x.used ≤ now; omega, fun x hx => by simpa using (List.mem_filter.1 hx).2⟩
theorem Tab.Ok.register {t : Tab} (h : t.Ok) : t.register.1.Ok ∧ Rep.Ok ⟨t.register.2.2, t.register.2.1, 0⟩ := by
  have hn := h.next
  unfold Tab.register
  split
  · exact ⟨h, Rep.Ok.lit (e := 11) (by decide) (by decide)⟩
  · rename_i hc
    refine ⟨⟨h.now, by show t.next + 1 < _; omega, by show 0 < t.next + 1; omega, by simp; omega, ?_, ?_, ?_, ?_, ?_⟩, ⟨by show (0 : Int) ≤ 0; decide, by show (0 : Int) ≤ 52; decide, hn, by show 0 < _; decide⟩⟩
    · refine List.pairwise_append.2 ⟨h.asc, List.pairwise_singleton _ _, fun x hx y hy => ?_⟩
      simp at hy
      subst hy
      exact h.below x hx
    · intro x hx
      rcases List.mem_append.1 hx with hx | hx
      · exact h.rows x hx
      · simp at hx
        subst hx
        exact ⟨h.next0, by show 0 < _; decide, Rep.Ok.lit (e := 0) (by decide) (by decide)⟩
    · intro x hx
      show x.id < t.next + 1
      rcases List.mem_append.1 hx with hx | hx
      · have := h.below x hx; omega
      · simp at hx; subst hx; exact Nat.lt_succ_self _
    · intro x hx
      rcases List.mem_append.1 hx with hx | hx
      · exact h.used x hx
      · simp at hx; subst hx; exact Nat.le_refl _
    · intro x hx
      rcases List.mem_append.1 hx with hx | hx
      · exact h.life x hx
      · simp at hx; subst hx; show t.now - t.now ≤ 1000; omega
/-- one session is turned, its number stays -/
theorem Tab.Ok.turn {t : Tab} (h : t.Ok) (i : Nat) (f : Ses → Ses) (hid : ∀ x, (f x).id = x.id) (hok : ∀ x, x.Ok → (f x).Ok) (hu : ∀ x, x.used ≤ t.now → t.now - x.used ≤ 1000 → (f x).used ≤ t.now ∧ t.now - (f x).used ≤ 1000) :
    (⟨t.now, t.next, t.rows.modify i f⟩ : Tab).Ok := by
  have hm : ∀ x ∈ t.rows.modify i f, ∃ y ∈ t.rows, x = y ∨ x = f y := by
    intro x hx
    obtain ⟨j, hj, rfl⟩ := List.mem_iff_getElem.1 hx
    rw [List.getElem_modify]
    rw [List.length_modify] at hj
    refine ⟨t.rows[j], List.getElem_mem hj, ?_⟩
    split
    · exact .inr rfl
    · exact .inl rfl
  refine ⟨h.now, h.next, h.next0, by simpa using h.len, ?_, ?_, ?_, ?_, ?_⟩
  · rw [List.pairwise_iff_getElem]
    intro a b ha hb hab
    simp only [List.length_modify] at ha hb
    have := List.pairwise_iff_getElem.1 h.asc a b (by simpa using ha) (by simpa using hb) hab
    simp only [List.getElem_modify]
    split <;> split <;> (try simp only [hid]) <;> exact this
  · intro x hx
    obtain ⟨y, hy, rfl | rfl⟩ := hm x hx
    · exact h.rows _ hy
    · exact hok _ (h.rows y hy)
  · intro x hx
    obtain ⟨y, hy, rfl | rfl⟩ := hm x hx
    · exact h.below _ hy
    · rw [hid]; exact h.below y hy
  · intro x hx
    obtain ⟨y, hy, rfl | rfl⟩ := hm x hx
    · exact h.used _ hy
    · exact (hu y (h.used y hy) (h.life y hy)).1
  · intro x hx
    obtain ⟨y, hy, rfl | rfl⟩ := hm x hx
    · exact h.life _ hy
    · exact (hu y (h.used y hy) (h.life y hy)).2
theorem find_lt {l : List Ses} {id i : Nat} (h : find l id = some i) : ∃ hi : i < l.length, l[i].id = id := by
  unfold find at h
  obtain ⟨hi, h1, _⟩ := List.findIdx?_eq_some_iff_getElem.1 h
  exact ⟨hi, by simpa using h1⟩
theorem Tab.Ok.start {t : Tab} (h : t.Ok) (id seq : Nat) : (t.start id seq).1.Ok ∧ (t.start id seq).2.1.Ok := by
  unfold Tab.start
  cases hf : find t.rows id with
  | none => exact ⟨h, Rep.Ok.lit (by decide) (by decide)⟩
  | some i =>
    obtain ⟨hi, _⟩ := find_lt hf
    have h1 : (⟨t.now, t.next, Mc.used t.rows i t.now⟩ : Tab).Ok := h.turn i _ (fun _ => rfl) (fun x hx => ⟨hx.id0, hx.seq, hx.rep⟩) (fun x _ _ => ⟨Nat.le_refl _, by show t.now - t.now ≤ 1000; omega⟩)
    have h2 : (t.rows.getD i ⟨0, 0, 0, ⟨0, 0, 0⟩⟩).rep.Ok := by
      rw [List.getD_eq_getElem?_getD, List.getElem?_eq_getElem hi]
      exact (h.rows _ (List.getElem_mem hi)).rep
    simp only
    split
    · exact ⟨h1, h2⟩
    · split
      · exact ⟨h1, Rep.Ok.lit (by decide) (by decide)⟩
      · exact ⟨h1, Rep.Ok.lit (by decide) (by decide)⟩
theorem Tab.Ok.end_ {t : Tab} (h : t.Ok) (id : Nat) {seq : Nat} {y : Rep} (hs : seq < 18446744073709551616) (hy : y.Ok) : (t.end_ id seq y).Ok := by
  unfold Tab.end_
  cases find t.rows id with
  | none => exact h
  | some i => exact h.turn i _ (fun _ => rfl) (fun x hx => ⟨hx.id0, hs, hy⟩) (fun x a b => ⟨a, b⟩)
/-! sagas stay sound -/
theorem told_ok {s : Sg} (h : sound s = true) : (told s).Ok := by
  obtain ⟨h0, h1, h2, h3, h4, h5, h6⟩ := sound_up h
  exact ⟨by show (0 : Int) ≤ 0; decide, by show (0 : Int) ≤ 52; decide, by show s.state.toNat < _; omega, by show s.cursor.toNat < _; omega⟩
theorem okSs_pos {l : List Stp} (h : okSs l = true) : 1 ≤ l.length ∧ l.length ≤ 64 ∧ ∀ t ∈ l, okS t = true := by
  unfold okSs at h
  simp only [Bool.and_eq_true, decide_eq_true_eq, List.all_eq_true] at h
  exact ⟨h.1.1, h.1.2, h.2⟩
theorem fresh_sound {l : List Stp} (h : okSs l = true) : sound (fresh l) = true := by
  have := okSs_pos h
  unfold sound fresh within
  simp [h]
  omega
theorem budget_ge {s : Sg} (h : okSs s.steps = true) (h0 : 0 ≤ s.cursor) (h1 : s.cursor < s.steps.length) : 1 ≤ budgetAt s := by
  unfold budgetAt
  rw [List.getD_eq_getElem?_getD, List.getElem?_map, List.getElem?_eq_getElem (by omega)]
  have := (okSs_pos h).2.2 _ (List.getElem_mem (l := s.steps) (n := s.cursor.toNat) (by omega))
  unfold okS at this
  simp only [Bool.and_eq_true, decide_eq_true_eq] at this
  simp
  omega
theorem backTo_sound {s : Sg} (h : okSs s.steps = true) {k : Int} (hk : k < s.steps.length) : sound (backTo s k) = true := by
  unfold backTo
  split
  · unfold sound; simp [h]
  · have hb := budget_ge (s := ⟨s.steps, 2, k, 0⟩) h (by show 0 ≤ k; omega) hk
    unfold sound within
    simp [h]
    omega
theorem sound_parts {s : Sg} (h : sound s = true) : okSs s.steps = true ∧ 0 ≤ s.failed ∧
    ((s.state = 1 ∧ (0 ≤ s.cursor ∧ s.cursor < s.steps.length) ∧ s.failed = 0) ∨ (s.state = 2 ∧ (0 ≤ s.cursor ∧ s.cursor < s.steps.length) ∧ s.failed < budgetAt s) ∨ (s.state = 3 ∧ s.cursor = s.steps.length ∧ s.failed = 0) ∨
     (s.state = 4 ∧ s.cursor = 0 ∧ s.failed = 0) ∨ (s.state = 5 ∧ (0 ≤ s.cursor ∧ s.cursor < s.steps.length) ∧ s.failed = budgetAt s)) := by
  unfold sound within at h
  simp only [Bool.and_eq_true, Bool.or_eq_true, decide_eq_true_eq] at h
  obtain ⟨⟨h0, h1⟩, h⟩ := h
  refine ⟨h0, h1, ?_⟩
  rcases h with (((h | h) | h) | h) | h
  · exact .inl ⟨h.1.1, h.1.2, h.2⟩
  · exact .inr (.inl ⟨h.1.1, h.1.2, h.2⟩)
  · exact .inr (.inr (.inl ⟨h.1.1, h.1.2, h.2⟩))
  · exact .inr (.inr (.inr (.inl ⟨h.1.1, h.1.2, h.2⟩)))
  · exact .inr (.inr (.inr (.inr ⟨h.1.1, h.1.2, h.2⟩)))
theorem abort_sound {s : Sg} (h : sound s = true) : sound (abort s).1 = true := by
  unfold abort
  split
  · rename_i hc
    obtain ⟨h0, _, hp⟩ := sound_parts h
    refine backTo_sound h0 ?_
    rcases hp with hp | hp | hp | hp | hp <;> omega
  · exact h
theorem outcome_sound {s : Sg} (h : sound s = true) (step : Int) (taken : Bool) (try_ : Int) (ok : Bool) : sound (outcome s step taken try_ ok).1 = true := by
  obtain ⟨h0, hf, hp⟩ := sound_parts h
  have hl := okSs_pos h0
  unfold outcome
  split
  · rename_i hc
    obtain ⟨_, hs2, rfl, ht, ho⟩ := hc
    have hcur : 0 ≤ s.cursor ∧ s.cursor < s.steps.length := by rcases hp with hp | hp | hp | hp | hp <;> omega
    by_cases hA : taken = false ∧ ok = true
    · rw [if_pos hA]
      have hst : s.state = 1 := by
        rw [hA.1] at ht
        have : ¬ s.state = 2 := by simpa using ht.symm
        omega
      have hf0 : s.failed = 0 := by rcases hp with hp | hp | hp | hp | hp <;> omega
      simp only
      split
      · rename_i hlast
        unfold sound
        simp [h0, hf0, hlast]
      · rename_i hlast
        unfold sound within
        simp [h0, hf0, hst]
        omega
    · rw [if_neg hA]
      by_cases hB : taken = false ∨ ok = true
      · rw [if_pos hB]
        exact backTo_sound h0 (by omega)
      · rw [if_neg hB]
        have htt : taken = true := by cases taken; exact absurd (.inl rfl) hB; rfl
        have hst : s.state = 2 := by rw [htt] at ht; simpa using ht.symm
        have hfb : s.failed < budgetAt s := by
          rcases hp with hp | hp | hp | hp | hp
          · omega
          · exact hp.2.2
          · omega
          · omega
          · omega
        by_cases he : s.failed + 1 = budgetAt s
        · have e2 : budgetAt ⟨s.steps, 5, s.cursor, s.failed + 1⟩ = budgetAt s := rfl
          simp only [if_pos he]
          unfold sound within
          simp only [e2]
          simp [h0, he]
          omega
        · have e2 : budgetAt ⟨s.steps, s.state, s.cursor, s.failed + 1⟩ = budgetAt s := rfl
          simp only [if_neg he]
          unfold sound within
          simp only [e2]
          simp [h0, hst]
          omega
  · exact h
/-! numbers in order -/
theorem mem_insert {l : List Nat} {id i : Nat} : i ∈ insert l id ↔ i = id ∨ i ∈ l := by
  unfold insert
  have e := List.takeWhile_append_dropWhile (p := fun i => decide (i < id)) (l := l)
  constructor
  · intro h
    rcases List.mem_append.1 h with h | h
    · exact .inr (e ▸ List.mem_append_left _ h)
    · rcases List.mem_cons.1 h with h | h
      · exact .inl h
      · exact .inr (e ▸ List.mem_append_right _ h)
  · rintro (rfl | h)
    · exact List.mem_append_right _ (List.mem_cons_self ..)
    · rw [← e] at h
      rcases List.mem_append.1 h with h | h
      · exact List.mem_append_left _ h
      · exact List.mem_append_right _ (List.mem_cons_of_mem _ h)
theorem insert_length (l : List Nat) (id : Nat) : (insert l id).length = l.length + 1 := by
  unfold insert
  have e := congrArg List.length (List.takeWhile_append_dropWhile (p := fun i => decide (i < id)) (l := l))
  rw [List.length_append] at e
  rw [List.length_append, List.length_cons]
  omega
theorem takeWhile_lt {id : Nat} : ∀ (l : List Nat), ∀ x ∈ l.takeWhile (fun i => decide (i < id)), x < id
  | [], x, h => by cases h
  | a :: l, x, h => by
    rw [List.takeWhile_cons] at h
    split at h
    · rename_i ha
      rcases List.mem_cons.1 h with h | h
      · subst h; simpa using ha
      · exact takeWhile_lt l x h
    · cases h
theorem dropWhile_ge {id : Nat} : ∀ (l : List Nat) (_ : l.Pairwise (· < ·)), ∀ x ∈ l.dropWhile (fun i => decide (i < id)), id ≤ x
  | [], _, x, h => by cases h
  | a :: l, hp, x, h => by
    rw [List.dropWhile_cons] at h
    obtain ⟨h1, h2⟩ := List.pairwise_cons.1 hp
    split at h
    · exact dropWhile_ge l h2 x h
    · rename_i ha
      have ha' : ¬ a < id := by simpa using ha
      rcases List.mem_cons.1 h with h | h
      · omega
      · have := h1 x h; omega
theorem insert_asc {l : List Nat} (h : l.Pairwise (· < ·)) {id : Nat} (hn : id ∉ l) : (insert l id).Pairwise (· < ·) := by
  have h' := h
  unfold insert
  have e := List.takeWhile_append_dropWhile (p := fun i => decide (i < id)) (l := l)
  rw [← e] at h'
  obtain ⟨h1, h2, h3⟩ := List.pairwise_append.1 h'
  refine List.pairwise_append.2 ⟨h1, List.pairwise_cons.2 ⟨fun y hy => ?_, h2⟩, fun x hx y hy => ?_⟩
  · have hge := dropWhile_ge l h y hy
    have hy' : y ∈ l := by rw [← e]; exact List.mem_append_right _ hy
    have : y ≠ id := fun e => hn (e ▸ hy')
    omega
  · rcases List.mem_cons.1 hy with hy | hy
    · subst hy; exact takeWhile_lt l x hx
    · exact h3 x hx y hy
theorem Mach.Ok.put_new {m : Mach} (h : m.Ok) {id : Nat} (hi : id < 18446744073709551616) (hn : m.sagas id = none) (hl : m.ids.length < 16) {s : Sg} (hs : Mc.sound s = true) : (⟨m.tab, insert m.ids id, put m.sagas id s⟩ : Mach).Ok := by
  have hni : id ∉ m.ids := fun hc => by have := (h.has id).2 hc; rw [hn] at this; cases this
  refine ⟨h.tab, by rw [insert_length]; omega, insert_asc h.asc hni, ?_, ?_, ?_⟩
  · intro i hx
    rcases mem_insert.1 hx with rfl | hx
    · exact hi
    · exact h.ids i hx
  · intro i
    show (if i = id then some s else m.sagas i).isSome = true ↔ _
    rw [mem_insert]
    by_cases e : i = id
    · simp [e]
    · simp [e, h.has i]
  · intro i t ht
    have ht' : (if i = id then some s else m.sagas i) = some t := ht
    by_cases e : i = id
    · rw [if_pos e] at ht'; cases ht'; exact hs
    · rw [if_neg e] at ht'; exact h.sound i t ht'
theorem Mach.Ok.put_old {m : Mach} (h : m.Ok) {id : Nat} {s0 : Sg} (hn : m.sagas id = some s0) {s : Sg} (hs : Mc.sound s = true) : (⟨m.tab, m.ids, put m.sagas id s⟩ : Mach).Ok := by
  refine ⟨h.tab, h.len, h.asc, h.ids, ?_, ?_⟩
  · intro i
    show (if i = id then some s else m.sagas i).isSome = true ↔ _
    by_cases e : i = id
    · subst e
      rw [if_pos rfl]
      have := (h.has i).1 (by rw [hn]; rfl)
      simp [this]
    · rw [if_neg e]; exact h.has i
  · intro i t ht
    have ht' : (if i = id then some s else m.sagas i) = some t := ht
    by_cases e : i = id
    · rw [if_pos e] at ht'; cases ht'; exact hs
    · rw [if_neg e] at ht'; exact h.sound i t ht'
theorem Mach.Ok.do_ {m : Mach} (h : m.Ok) {c : Cmd} (hc : may c = true) (hw : c.Wf) : (m.do_ c).1.Ok ∧ (m.do_ c).2.Ok := by
  unfold Mach.do_
  split
  · rename_i h2
    have hst : okSs c.steps = true := by
      unfold may at hc
      rw [if_neg (by omega), if_pos h2, Bool.and_eq_true] at hc
      exact hc.1
    cases hx : m.sagas c.saga with
    | some s => exact ⟨h, Rep.Ok.lit (by decide) (by decide)⟩
    | none =>
      simp only
      split
      · exact ⟨h, Rep.Ok.lit (by decide) (by decide)⟩
      · exact ⟨h.put_new hw.saga hx (by omega) (fresh_sound hst), told_ok (fresh_sound hst)⟩
  · split
    · cases hx : m.sagas c.saga with
      | none => exact ⟨h, Rep.Ok.lit (by decide) (by decide)⟩
      | some s =>
        have := abort_sound (h.sound _ _ hx)
        exact ⟨h.put_old hx this, told_ok this⟩
    · cases hx : m.sagas c.saga with
      | none => exact ⟨h, Rep.Ok.lit (by decide) (by decide)⟩
      | some s => exact ⟨h, told_ok (h.sound _ _ hx)⟩
theorem Mach.Ok.outcome {m : Mach} (h : m.Ok) (c : Cmd) : (m.outcome c).1.Ok ∧ (m.outcome c).2.Ok := by
  unfold Mach.outcome
  cases hx : m.sagas c.saga with
  | none => exact ⟨h, Rep.Ok.lit (by decide) (by decide)⟩
  | some s =>
    have := outcome_sound (h.sound _ _ hx) c.step c.back c.try_ c.ok
    simp only
    split
    · exact ⟨h.put_old hx this, told_ok this⟩
    · exact ⟨h, Rep.Ok.lit (by decide) (by decide)⟩
theorem Mach.Ok.tabbed {m : Mach} (h : m.Ok) {t : Tab} (ht : t.Ok) : (⟨t, m.ids, m.sagas⟩ : Mach).Ok := ⟨ht, h.len, h.asc, h.ids, h.has, h.sound⟩
theorem Mach.Ok.apply {m : Mach} (h : m.Ok) {s : List Int} (hb : Byt s) : (m.apply s).1.Ok ∧ (m.apply s).2.Ok := by
  unfold Mach.apply
  cases hd : dec s with
  | none => exact ⟨h, Rep.Ok.lit (by decide) (by decide)⟩
  | some c =>
    have hw := dec_wf hb hd
    have hm := (dec_canon hb hd).2
    have h1 := h.tabbed (h.tab.clock hw.now)
    simp only
    split
    · have := (h.tab.clock hw.now).register
      exact ⟨h1.tabbed this.1, this.2⟩
    · split
      · exact h1.outcome c
      · have h2 := (h.tab.clock hw.now).start c.session c.seq
        have h3 := h1.tabbed h2.1
        split
        · exact ⟨h3, h2.2⟩
        · have h4 := h3.do_ hm hw
          exact ⟨h4.1.tabbed (h4.1.tab.end_ _ hw.seq h4.2), h4.2⟩
end Mc
end Go.Proofs.Ytogeeeigfhmpmaa
