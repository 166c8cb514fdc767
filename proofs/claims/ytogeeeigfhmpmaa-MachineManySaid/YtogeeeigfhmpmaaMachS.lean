/- A machine as bytes, and back (layers 14, 15, 17), in plain lists; what holds of every machine. -/
import Derived.Test.YtogeeeigfhmpmaaMachM
import Derived.Test.YtogeeeigfhmpmaaCmdB
namespace Go.Proofs.Ytogeeeigfhmpmaa
namespace Mc
open Pk
def encSg (s : Sg) : List Int := encSs s.steps ++ num s.state.toNat ++ num s.cursor.toNat ++ num s.failed.toNat
def encSes (x : Ses) : List Int := num x.id ++ num x.used ++ num x.seq ++ num x.rep.err.toNat ++ num x.rep.num ++ num x.rep.extra
def encTab (t : Tab) : List Int := num t.now ++ num t.next ++ num t.rows.length ++ t.rows.flatMap encSes
def Sg.zero : Sg := ⟨[], 0, 0, 0⟩
def encIds (f : Sgs) (l : List Nat) : List Int := l.flatMap (fun i => num i ++ encSg ((f i).getD Sg.zero))
def Mach.save (m : Mach) : List Int := encTab m.tab ++ num m.ids.length ++ encIds m.sagas m.ids
/-- a session is read -/
def rdSes (r : RD) : Ses × RD :=
  let a := r.num
  let b := a.2.num
  let c := b.2.num
  let d := c.2.up 52
  let e := d.2.num
  let f := e.2.num
  (⟨a.1, b.1, c.1, ⟨(d.1 : Int), e.1, f.1⟩⟩, f.2)
def lastId (l : List Ses) : Nat := (l.getLast?.map Ses.id).getD 0
def okSes (now next last : Nat) (x : Ses) : Bool := decide (last < x.id) && decide (x.id < next) && decide (x.used ≤ now) && decide (now - x.used ≤ 1000)
def ldRows (now next : Nat) : Nat → List Ses → RD → Option (List Ses × RD)
  | 0, l, r => some (l, r)
  | n + 1, l, r => if okSes now next (lastId l) (rdSes r).1 = true then ldRows now next n (l ++ [(rdSes r).1]) (rdSes r).2 else none
def rdTab (r : RD) : Option (Tab × RD) :=
  let a := r.num
  let b := a.2.num
  let n := b.2.up 16
  match ldRows a.1 b.1 n.1 [] n.2 with
  | none => none
  | some (l, r') => if r'.bad = true ∨ b.1 = 0 then none else some (⟨a.1, b.1, l⟩, r')
def rdSg (r : RD) : Option Sg × RD :=
  let a := rdSs r
  let b := a.2.up 5
  let c := b.2.up 64
  let d := c.2.up 9
  (if d.2.bad = false ∧ sound ⟨a.1, b.1, c.1, d.1⟩ = true then some ⟨a.1, b.1, c.1, d.1⟩ else none, d.2)
def lastN (l : List Nat) : Nat := l.getLast?.getD 0
def ldSgs : Nat → List Nat → Sgs → RD → Option (List Nat × Sgs × RD)
  | 0, l, f, r => some (l, f, r)
  | n + 1, l, f, r => match (rdSg r.num.2).1 with
    | none => none
    | some x => if l ≠ [] ∧ r.num.1 ≤ lastN l then none else ldSgs n (l ++ [r.num.1]) (put f r.num.1 x) (rdSg r.num.2).2
def ldMach (r : RD) : Option Mach :=
  match rdTab r with
  | none => none
  | some (t, r1) => match ldSgs (r1.up 16).1 [] (fun _ => none) (r1.up 16).2 with
    | none => none
    | some (ids, f, r2) => if r2.done = true then some ⟨t, ids, f⟩ else none
def load (s : List Int) : Option Mach := if s = [] then some Mach.new else ldMach ⟨s, false⟩

/-- a reply that can be kept -/
structure Rep.Ok (y : Rep) : Prop where
  err0 : 0 ≤ y.err
  err : y.err ≤ 52
  num : y.num < 18446744073709551616
  extra : y.extra < 18446744073709551616
structure Ses.Ok (x : Ses) : Prop where
  id0 : 0 < x.id
  seq : x.seq < 18446744073709551616
  rep : x.rep.Ok
/-- what holds of every table -/
structure Tab.Ok (t : Tab) : Prop where
  now : t.now < 18446744073709551616
  next : t.next < 18446744073709551616
  next0 : 0 < t.next
  len : t.rows.length ≤ 16
  asc : t.rows.Pairwise (fun x y => x.id < y.id)
  rows : ∀ x ∈ t.rows, x.Ok
  below : ∀ x ∈ t.rows, x.id < t.next
  used : ∀ x ∈ t.rows, x.used ≤ t.now
  life : ∀ x ∈ t.rows, t.now - x.used ≤ 1000
/-- .. and of every machine -/
structure Mach.Ok (m : Mach) : Prop where
  tab : m.tab.Ok
  len : m.ids.length ≤ 16
  asc : m.ids.Pairwise (· < ·)
  ids : ∀ i ∈ m.ids, i < 18446744073709551616
  has : ∀ i, (m.sagas i).isSome = true ↔ i ∈ m.ids
  sound : ∀ i s, m.sagas i = some s → sound s = true

theorem sound_up {s : Sg} (h : sound s = true) : okSs s.steps = true ∧ 0 ≤ s.state ∧ s.state ≤ 5 ∧ 0 ≤ s.cursor ∧ s.cursor ≤ 64 ∧ 0 ≤ s.failed ∧ s.failed ≤ 9 := by
  have hb : ∀ t : Sg, okSs t.steps = true → budgetAt t ≤ 9 := by
    intro t ht
    unfold okSs at ht
    simp only [Bool.and_eq_true, decide_eq_true_eq, List.all_eq_true] at ht
    unfold budgetAt
    rw [List.getD_eq_getElem?_getD, List.getElem?_map]
    cases hx : t.steps[t.cursor.toNat]? with
    | none => simp
    | some u =>
      have := ht.2 u (List.mem_of_getElem? hx)
      unfold okS at this
      simp only [Bool.and_eq_true, decide_eq_true_eq] at this
      simp
      omega
  unfold sound at h
  simp only [Bool.and_eq_true, Bool.or_eq_true, decide_eq_true_eq] at h
  obtain ⟨⟨h0, h1⟩, h⟩ := h
  have h9 := hb s h0
  have hl : s.steps.length ≤ 64 := by
    unfold okSs at h0
    simp only [Bool.and_eq_true, decide_eq_true_eq] at h0
    omega
  unfold within at h
  simp only [Bool.and_eq_true, decide_eq_true_eq] at h
  refine ⟨h0, ?_⟩
  rcases h with (((h | h) | h) | h) | h <;> omega
theorem rdSg_back {s : Sg} (h : sound s = true) (u : List Int) : rdSg ⟨encSg s ++ u, false⟩ = (some s, ⟨u, false⟩) := by
  obtain ⟨h0, h1, h2, h3, h4, h5, h6⟩ := sound_up h
  obtain ⟨steps, state, cursor, failed⟩ := s
  simp only at h0 h1 h2 h3 h4 h5 h6
  unfold rdSg encSg
  simp only [List.append_assoc]
  rw [rdSs_back h0]
  simp only
  rw [up_back (by omega) (by omega)]
  simp only
  rw [up_back (by omega) (by omega)]
  simp only
  rw [up_back (by omega) (by omega)]
  have e1 : ((state.toNat : Nat) : Int) = state := by omega
  have e2 : ((cursor.toNat : Nat) : Int) = cursor := by omega
  have e3 : ((failed.toNat : Nat) : Int) = failed := by omega
  simp only [e1, e2, e3]
  rw [if_pos ⟨trivial, h⟩]
theorem rdSes_back {x : Ses} (h : x.Ok) (hi : x.id < 18446744073709551616) (hu : x.used < 18446744073709551616) (u : List Int) (b : Bool) : rdSes ⟨encSes x ++ u, b⟩ = (x, ⟨u, b⟩) := by
  obtain ⟨_, h1, ⟨h2, h3, h4, h5⟩⟩ := h
  obtain ⟨id, used, seq, ⟨err, n, extra⟩⟩ := x
  simp only at h1 h2 h3 h4 h5 hi hu
  unfold rdSes encSes
  simp only [List.append_assoc]
  rw [num_back hi]
  simp only
  rw [num_back hu]
  simp only
  rw [num_back h1]
  simp only
  rw [up_back (by omega) (by omega)]
  simp only
  rw [num_back h4]
  simp only
  rw [num_back h5]
  have e1 : ((err.toNat : Nat) : Int) = err := by omega
  simp only [e1]
theorem ldRows_back (now next : Nat) (hnow : now < 18446744073709551616) (hnx : next < 18446744073709551616) : ∀ (l k : List Ses) (_ : (k ++ l).Pairwise (fun x y => x.id < y.id)) (_ : ∀ x ∈ l, x.Ok ∧ x.id < next ∧ x.used ≤ now ∧ now - x.used ≤ 1000) (u : List Int) (b : Bool),
    ldRows now next l.length k ⟨l.flatMap encSes ++ u, b⟩ = some (k ++ l, ⟨u, b⟩)
  | [], k, _, _, u, b => by simp [ldRows]
  | x :: l, k, hp, h, u, b => by
    obtain ⟨h1, h2, h3, h4⟩ := h x (by simp)
    rw [List.flatMap_cons, List.append_assoc, List.length_cons]
    unfold ldRows
    rw [rdSes_back h1 (by omega) (by omega)]
    simp only
    have hl : lastId k < x.id := by
      unfold lastId
      cases hk : k.getLast? with
      | none => exact h1.id0
      | some y =>
        have := (List.pairwise_append.1 hp).2.2 y (List.mem_of_getLast? hk) x (by simp)
        exact this
    rw [if_pos (by unfold okSes; simp; omega)]
    have := ldRows_back now next hnow hnx l (k ++ [x]) (by simpa using hp) (fun y hy => h y (by simp [hy])) u b
    rw [this]
    simp
theorem rdTab_back {t : Tab} (h : t.Ok) (u : List Int) : rdTab ⟨encTab t ++ u, false⟩ = some (t, ⟨u, false⟩) := by
  obtain ⟨h1, h2, h3, h4, h5, h6, h7, h8, h9⟩ := h
  obtain ⟨now, next, rows⟩ := t
  simp only at h1 h2 h3 h4 h5 h6 h7 h8 h9
  unfold rdTab encTab
  simp only [List.append_assoc]
  rw [num_back h1]
  simp only
  rw [num_back h2]
  simp only
  rw [up_back h4 (by omega)]
  simp only
  rw [ldRows_back now next h1 h2 rows [] (by simpa using h5) (fun x hx => ⟨h6 x hx, h7 x hx, h8 x hx, h9 x hx⟩)]
  simp
  omega
theorem ldSgs_back (f : Sgs) (hs : ∀ i s, f i = some s → sound s = true) : ∀ (l k : List Nat) (_ : (k ++ l).Pairwise (· < ·)) (_ : ∀ i ∈ l, i < 18446744073709551616 ∧ (f i).isSome = true) (g : Sgs) (u : List Int),
    ∃ g' : Sgs, ldSgs l.length k g ⟨encIds f l ++ u, false⟩ = some (k ++ l, g', ⟨u, false⟩) ∧ ∀ i, g' i = if i ∈ l then f i else g i
  | [], k, _, _, g, u => by
    refine ⟨g, ?_, fun i => ?_⟩
    · rw [List.append_nil]; rfl
    · rw [if_neg List.not_mem_nil]
  | x :: l, k, hp, h, g, u => by
    obtain ⟨h1, h2⟩ := h x (by simp)
    obtain ⟨s, hfs⟩ := Option.isSome_iff_exists.1 h2
    have hso := hs x s hfs
    obtain ⟨g', e, hg⟩ := ldSgs_back f hs l (k ++ [x]) (by simpa using hp) (fun y hy => h y (by simp [hy])) (put g x s) u
    refine ⟨g', ?_, fun i => ?_⟩
    · rw [List.length_cons]
      unfold ldSgs encIds
      rw [List.flatMap_cons, hfs]
      simp only [Option.getD_some, List.append_assoc]
      rw [num_back h1]
      simp only
      rw [rdSg_back hso]
      simp only
      have hl : ¬ (k ≠ [] ∧ x ≤ lastN k) := by
        rintro ⟨hk, hle⟩
        unfold lastN at hle
        cases hx : k.getLast? with
        | none => exact hk (List.getLast?_eq_none_iff.1 hx)
        | some y =>
          rw [hx] at hle
          have := (List.pairwise_append.1 hp).2.2 y (List.mem_of_getLast? hx) x (by simp)
          simp at hle
          omega
      rw [if_neg hl]
      have e' := e
      unfold encIds at e'
      rw [e']
      simp
    · rw [hg i]
      by_cases hi : i ∈ l
      · simp [hi]
      · by_cases hx : i = x
        · subst hx; simp [hi, put, hfs]
        · simp [hi, hx, put]
theorem num_ne (x : Nat) (u : List Int) : num x ++ u ≠ [] := by unfold num; simp
/-- what is saved is loaded -/
theorem load_save {m : Mach} (h : m.Ok) : load m.save = some m := by
  have hne : m.save ≠ [] := by
    unfold Mach.save encTab
    simp only [List.append_assoc]
    exact num_ne _ _
  unfold load
  rw [if_neg hne]
  unfold Mach.save ldMach
  rw [List.append_assoc, rdTab_back h.tab]
  simp only
  rw [up_back h.len (by omega)]
  simp only
  obtain ⟨g, e, hg⟩ := ldSgs_back m.sagas h.sound m.ids [] (by simpa using h.asc) (fun i hi => ⟨h.ids i hi, (h.has i).2 hi⟩) (fun _ => none) []
  rw [List.append_nil] at e
  rw [e]
  have hgm : g = m.sagas := by
    funext i
    rw [hg i]
    by_cases hi : i ∈ m.ids
    · rw [if_pos hi]
    · rw [if_neg hi]
      cases hm : m.sagas i with
      | none => rfl
      | some s => exact absurd ((h.has i).1 (by rw [hm]; rfl)) hi
  simp [RD.done, hgm]
end Mc
end Go.Proofs.Ytogeeeigfhmpmaa
