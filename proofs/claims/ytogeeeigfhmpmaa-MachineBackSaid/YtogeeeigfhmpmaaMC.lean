/- What the statements of this seat lean on, part C: what the program's and the document's functions compute, in plain data. -/
import Derived.Test.YtogeeeigfhmpmaaMB
import Derived.Deep.RegionHeld3
import Derived.Deep.CutBlock

/- Sagas, sessions, the machine, in plain data (layers 14, 15, 17): what the program's calls make of them. -/
namespace Go.Proofs.Ytogeeeigfhmpmaa
namespace Mc
open Pk
/-- a saga -/
structure Sg where
  steps : List Stp
  state : Int
  cursor : Int
  failed : Int
def budgetAt (s : Sg) : Int := ((s.steps.map (fun t => (t.budget : Int))).getD s.cursor.toNat 0)
def within (s : Sg) : Bool := decide (0 ≤ s.cursor) && decide (s.cursor < s.steps.length)
def sound (s : Sg) : Bool :=
  okSs s.steps && decide (0 ≤ s.failed) &&
  ((decide (s.state = 1) && within s && decide (s.failed = 0)) || (decide (s.state = 2) && within s && decide (s.failed < budgetAt s)) || (decide (s.state = 3) && decide (s.cursor = s.steps.length) && decide (s.failed = 0)) ||
   (decide (s.state = 4) && decide (s.cursor = 0) && decide (s.failed = 0)) || (decide (s.state = 5) && within s && decide (s.failed = budgetAt s)))
def fresh (l : List Stp) : Sg := ⟨l, 1, 0, 0⟩
def backTo (s : Sg) (step : Int) : Sg := if step < 0 then ⟨s.steps, 4, 0, 0⟩ else ⟨s.steps, 2, step, 0⟩
def abort (s : Sg) : Sg × Bool := if sound s = true ∧ s.state = 1 then (backTo s s.cursor, true) else (s, false)
def outcome (s : Sg) (step : Int) (taken : Bool) (try_ : Int) (ok : Bool) : Sg × Bool :=
  if sound s = true ∧ s.state ≤ 2 ∧ s.cursor = step ∧ taken = decide (s.state = 2) ∧ (ok = true ∨ try_ = s.failed) then
    (if taken = false ∧ ok = true then (if s.cursor + 1 = s.steps.length then ⟨s.steps, 3, s.cursor + 1, s.failed⟩ else ⟨s.steps, s.state, s.cursor + 1, s.failed⟩, true)
     else if taken = false ∨ ok = true then (backTo s (step - 1), true)
     else (⟨s.steps, if s.failed + 1 = budgetAt s then 5 else s.state, s.cursor, s.failed + 1⟩, true))
  else (s, false)
/-- an answer -/
structure Rep where
  err : Int
  num : Nat
  extra : Nat
def told (s : Sg) : Rep := ⟨0, s.state.toNat, s.cursor.toNat⟩
/-- a session -/
structure Ses where
  id : Nat
  used : Nat
  seq : Nat
  rep : Rep
structure Tab where
  now : Nat
  next : Nat
  rows : List Ses
def Tab.new : Tab := ⟨0, 1, []⟩
def Tab.clock (t : Tab) (now : Nat) : Tab := if now ≤ t.now then t else ⟨now, t.next, t.rows.filter (fun x => decide (now - x.used ≤ 1000))⟩
def Tab.register (t : Tab) : Tab × Nat × Int :=
  if 16 ≤ t.rows.length ∨ t.next = 18446744073709551615 then (t, 0, 11) else (⟨t.now, t.next + 1, t.rows ++ [⟨t.next, t.now, 0, ⟨0, 0, 0⟩⟩]⟩, t.next, 0)
def find (l : List Ses) (id : Nat) : Option Nat := l.findIdx? (fun x => decide (x.id = id))
def used (l : List Ses) (i now : Nat) : List Ses := l.modify i (fun x => { x with used := now })
/-- a session's command comes: what is answered, or that it is new -/
def Tab.start (t : Tab) (id seq : Nat) : Tab × Rep × Bool :=
  match find t.rows id with
  | none => (t, ⟨40, 0, 0⟩, false)
  | some i =>
    let t' : Tab := ⟨t.now, t.next, used t.rows i t.now⟩
    let x := t.rows.getD i ⟨0, 0, 0, ⟨0, 0, 0⟩⟩
    if seq = x.seq ∧ 0 < seq then (t', x.rep, false) else if seq ≠ x.seq + 1 ∨ seq = 0 then (t', ⟨41, 0, 0⟩, false) else (t', ⟨0, 0, 0⟩, true)
def Tab.end_ (t : Tab) (id seq : Nat) (y : Rep) : Tab :=
  match find t.rows id with
  | none => t
  | some i => ⟨t.now, t.next, t.rows.modify i (fun x => { x with seq := seq, rep := y })⟩
/-- sagas by number -/
def Sgs := Nat → Option Sg
def put (f : Sgs) (id : Nat) (s : Sg) : Sgs := fun i => if i = id then some s else f i
structure Mach where
  tab : Tab
  ids : List Nat
  sagas : Sgs
def Mach.new : Mach := ⟨Tab.new, [], fun _ => none⟩
def insert (l : List Nat) (id : Nat) : List Nat := l.takeWhile (fun i => decide (i < id)) ++ id :: l.dropWhile (fun i => decide (i < id))
/-- a session's command -/
def Mach.do_ (m : Mach) (c : Cmd) : Mach × Rep :=
  if c.kind = 2 then
    (match m.sagas c.saga with
     | some _ => (m, ⟨42, 0, 0⟩)
     | none => if 16 ≤ m.ids.length then (m, ⟨11, 0, 0⟩) else (⟨m.tab, insert m.ids c.saga, put m.sagas c.saga (fresh c.steps)⟩, told (fresh c.steps)))
  else if c.kind = 3 then
    (match m.sagas c.saga with
     | none => (m, ⟨43, 0, 0⟩)
     | some s => (⟨m.tab, m.ids, put m.sagas c.saga (abort s).1⟩, told (abort s).1))
  else
    (match m.sagas c.saga with
     | none => (m, ⟨43, 0, 0⟩)
     | some s => (m, told s))
def Mach.outcome (m : Mach) (c : Cmd) : Mach × Rep :=
  match m.sagas c.saga with
  | none => (m, ⟨43, 0, 0⟩)
  | some s => let x := Mc.outcome s c.step c.back c.try_ c.ok; if x.2 = true then (⟨m.tab, m.ids, put m.sagas c.saga x.1⟩, told x.1) else (m, ⟨41, 0, 0⟩)
def Mach.apply (m : Mach) (s : List Int) : Mach × Rep :=
  match dec s with
  | none => (m, ⟨2, 0, 0⟩)
  | some c =>
    let m1 : Mach := ⟨m.tab.clock c.now, m.ids, m.sagas⟩
    if c.kind = 1 then (let x := m1.tab.register; (⟨x.1, m1.ids, m1.sagas⟩, ⟨x.2.2, x.2.1, 0⟩))
    else if c.kind = 4 then m1.outcome c
    else
      let x := m1.tab.start c.session c.seq
      let m2 : Mach := ⟨x.1, m1.ids, m1.sagas⟩
      if x.2.2 = false then (m2, x.2.1)
      else let y := m2.do_ c; (⟨y.1.tab.end_ c.session c.seq y.2, y.1.ids, y.1.sagas⟩, y.2)
end Mc
end Go.Proofs.Ytogeeeigfhmpmaa

/- A machine as bytes, and back (layers 14, 15, 17), in plain lists; what holds of every machine. -/
namespace Go.Proofs.Ytogeeeigfhmpmaa
namespace Mc
open Pk
def encSg (s : Sg) : List Int := encSs s.steps ++ num s.state.toNat ++ num s.cursor.toNat ++ num s.failed.toNat
def encSes (x : Ses) : List Int := num x.id ++ num x.used ++ num x.seq ++ num x.rep.err.toNat ++ num x.rep.num ++ num x.rep.extra
def encTab (t : Tab) : List Int := num t.now ++ num t.next ++ num t.rows.length ++ t.rows.flatMap encSes
def Sg.zero : Sg := ⟨[], 0, 0, 0⟩
def encIds (f : Sgs) (l : List Nat) : List Int := l.flatMap (fun i => num i ++ encSg ((f i).getD Sg.zero))
def Mach.save (m : Mach) : List Int := encTab m.tab ++ num m.ids.length ++ encIds m.sagas m.ids
/-- a session is read -/
def rdSes (r : RD) : Ses × RD :=
  let a := r.num
  let b := a.2.num
  let c := b.2.num
  let d := c.2.up 52
  let e := d.2.num
  let f := e.2.num
  (⟨a.1, b.1, c.1, ⟨(d.1 : Int), e.1, f.1⟩⟩, f.2)
def lastId (l : List Ses) : Nat := (l.getLast?.map Ses.id).getD 0
def okSes (now next last : Nat) (x : Ses) : Bool := decide (last < x.id) && decide (x.id < next) && decide (x.used ≤ now) && decide (now - x.used ≤ 1000)
def ldRows (now next : Nat) : Nat → List Ses → RD → Option (List Ses × RD)
  | 0, l, r => some (l, r)
  | n + 1, l, r => if okSes now next (lastId l) (rdSes r).1 = true then ldRows now next n (l ++ [(rdSes r).1]) (rdSes r).2 else none
def rdTab (r : RD) : Option (Tab × RD) :=
  let a := r.num
  let b := a.2.num
  let n := b.2.up 16
  match ldRows a.1 b.1 n.1 [] n.2 with
  | none => none
  | some (l, r') => if r'.bad = true ∨ b.1 = 0 then none else some (⟨a.1, b.1, l⟩, r')
def rdSg (r : RD) : Option Sg × RD :=
  let a := rdSs r
  let b := a.2.up 5
  let c := b.2.up 64
  let d := c.2.up 9
  (if d.2.bad = false ∧ sound ⟨a.1, b.1, c.1, d.1⟩ = true then some ⟨a.1, b.1, c.1, d.1⟩ else none, d.2)
def lastN (l : List Nat) : Nat := l.getLast?.getD 0
def ldSgs : Nat → List Nat → Sgs → RD → Option (List Nat × Sgs × RD)
  | 0, l, f, r => some (l, f, r)
  | n + 1, l, f, r => match (rdSg r.num.2).1 with
    | none => none
    | some x => if l ≠ [] ∧ r.num.1 ≤ lastN l then none else ldSgs n (l ++ [r.num.1]) (put f r.num.1 x) (rdSg r.num.2).2
def ldMach (r : RD) : Option Mach :=
  match rdTab r with
  | none => none
  | some (t, r1) => match ldSgs (r1.up 16).1 [] (fun _ => none) (r1.up 16).2 with
    | none => none
    | some (ids, f, r2) => if r2.done = true then some ⟨t, ids, f⟩ else none
def load (s : List Int) : Option Mach := if s = [] then some Mach.new else ldMach ⟨s, false⟩

/-- a reply that can be kept -/
structure Rep.Ok (y : Rep) : Prop where
  err0 : 0 ≤ y.err
  err : y.err ≤ 52
  num : y.num < 18446744073709551616
  extra : y.extra < 18446744073709551616
structure Ses.Ok (x : Ses) : Prop where
  id0 : 0 < x.id
  seq : x.seq < 18446744073709551616
  rep : x.rep.Ok
/-- what holds of every table -/
structure Tab.Ok (t : Tab) : Prop where
  now : t.now < 18446744073709551616
  next : t.next < 18446744073709551616
  next0 : 0 < t.next
  len : t.rows.length ≤ 16
  asc : t.rows.Pairwise (fun x y => x.id < y.id)
  rows : ∀ x ∈ t.rows, x.Ok
  below : ∀ x ∈ t.rows, x.id < t.next
  used : ∀ x ∈ t.rows, x.used ≤ t.now
  life : ∀ x ∈ t.rows, t.now - x.used ≤ 1000
/-- .. and of every machine -/
structure Mach.Ok (m : Mach) : Prop where
  tab : m.tab.Ok
  len : m.ids.length ≤ 16
  asc : m.ids.Pairwise (· < ·)
  ids : ∀ i ∈ m.ids, i < 18446744073709551616
  has : ∀ i, (m.sagas i).isSome = true ↔ i ∈ m.ids
  sound : ∀ i s, m.sagas i = some s → sound s = true

theorem sound_up {s : Sg} (h : sound s = true) : okSs s.steps = true ∧ 0 ≤ s.state ∧ s.state ≤ 5 ∧ 0 ≤ s.cursor ∧ s.cursor ≤ 64 ∧ 0 ≤ s.failed ∧ s.failed ≤ 9 := by
  have hb : ∀ t : Sg, okSs t.steps = true → budgetAt t ≤ 9 := by
    intro t ht
    unfold okSs at ht
    simp only [Bool.and_eq_true, decide_eq_true_eq, List.all_eq_true] at ht
    unfold budgetAt
    rw [List.getD_eq_getElem?_getD, List.getElem?_map]
    cases hx : t.steps[t.cursor.toNat]? with
    | none => simp
    | some u =>
      have := ht.2 u (List.mem_of_getElem? hx)
      unfold okS at this
      simp only [Bool.and_eq_true, decide_eq_true_eq] at this
      simp
      omega
  unfold sound at h
  simp only [Bool.and_eq_true, Bool.or_eq_true, decide_eq_true_eq] at h
  obtain ⟨⟨h0, h1⟩, h⟩ := h
  have h9 := hb s h0
  have hl : s.steps.length ≤ 64 := by
    unfold okSs at h0
    simp only [Bool.and_eq_true, decide_eq_true_eq] at h0
    omega
  unfold within at h
  simp only [Bool.and_eq_true, decide_eq_true_eq] at h
  refine ⟨h0, ?_⟩
  rcases h with (((h | h) | h) | h) | h <;> omega
theorem rdSg_back {s : Sg} (h : sound s = true) (u : List Int) : rdSg ⟨encSg s ++ u, false⟩ = (some s, ⟨u, false⟩) := by
  obtain ⟨h0, h1, h2, h3, h4, h5, h6⟩ := sound_up h
  obtain ⟨steps, state, cursor, failed⟩ := s
  simp only at h0 h1 h2 h3 h4 h5 h6
  unfold rdSg encSg
  simp only [List.append_assoc]
  rw [rdSs_back h0]
  simp only
  rw [up_back (by omega) (by omega)]
  simp only
  rw [up_back (by omega) (by omega)]
  simp only
  rw [up_back (by omega) (by omega)]
  have e1 : ((state.toNat : Nat) : Int) = state := by omega
  have e2 : ((cursor.toNat : Nat) : Int) = cursor := by omega
  have e3 : ((failed.toNat : Nat) : Int) = failed := by omega
  simp only [e1, e2, e3]
  rw [if_pos ⟨trivial, h⟩]
theorem rdSes_back {x : Ses} (h : x.Ok) (hi : x.id < 18446744073709551616) (hu : x.used < 18446744073709551616) (u : List Int) (b : Bool) : rdSes ⟨encSes x ++ u, b⟩ = (x, ⟨u, b⟩) := by
  obtain ⟨_, h1, ⟨h2, h3, h4, h5⟩⟩ := h
  obtain ⟨id, used, seq, ⟨err, n, extra⟩⟩ := x
  simp only at h1 h2 h3 h4 h5 hi hu
  unfold rdSes encSes
  simp only [List.append_assoc]
  rw [num_back hi]
  simp only
  rw [num_back hu]
  simp only
  rw [num_back h1]
  simp only
  rw [up_back (by omega) (by omega)]
  simp only
  rw [num_back h4]
  simp only
  rw [num_back h5]
  have e1 : ((err.toNat : Nat) : Int) = err := by omega
  simp only [e1]
theorem ldRows_back (now next : Nat) (hnow : now < 18446744073709551616) (hnx : next < 18446744073709551616) : ∀ (l k : List Ses) (_ : (k ++ l).Pairwise (fun x y => x.id < y.id)) (_ : ∀ x ∈ l, x.Ok ∧ x.id < next ∧ x.used ≤ now ∧ now - x.used ≤ 1000) (u : List Int) (b : Bool),
    ldRows now next l.length k ⟨l.flatMap encSes ++ u, b⟩ = some (k ++ l, ⟨u, b⟩)
  | [], k, _, _, u, b => by simp [ldRows]
  | x :: l, k, hp, h, u, b => by
    obtain ⟨h1, h2, h3, h4⟩ := h x (by simp)
    rw [List.flatMap_cons, List.append_assoc, List.length_cons]
    unfold ldRows
    rw [rdSes_back h1 (by omega) (by omega)]
    simp only
    have hl : lastId k < x.id := by
      unfold lastId
      cases hk : k.getLast? with
      | none => exact h1.id0
      | some y =>
        have := (List.pairwise_append.1 hp).2.2 y (List.mem_of_getLast? hk) x (by simp)
        exact this
    rw [if_pos (by unfold okSes; simp; omega)]
    have := ldRows_back now next hnow hnx l (k ++ [x]) (by simpa using hp) (fun y hy => h y (by simp [hy])) u b
    rw [this]
    simp
theorem rdTab_back {t : Tab} (h : t.Ok) (u : List Int) : rdTab ⟨encTab t ++ u, false⟩ = some (t, ⟨u, false⟩) := by
  obtain ⟨h1, h2, h3, h4, h5, h6, h7, h8, h9⟩ := h
  obtain ⟨now, next, rows⟩ := t
  simp only at h1 h2 h3 h4 h5 h6 h7 h8 h9
  unfold rdTab encTab
  simp only [List.append_assoc]
  rw [num_back h1]
  simp only
  rw [num_back h2]
  simp only
  rw [up_back h4 (by omega)]
  simp only
  rw [ldRows_back now next h1 h2 rows [] (by simpa using h5) (fun x hx => ⟨h6 x hx, h7 x hx, h8 x hx, h9 x hx⟩)]
  simp
  omega
theorem ldSgs_back (f : Sgs) (hs : ∀ i s, f i = some s → sound s = true) : ∀ (l k : List Nat) (_ : (k ++ l).Pairwise (· < ·)) (_ : ∀ i ∈ l, i < 18446744073709551616 ∧ (f i).isSome = true) (g : Sgs) (u : List Int),
    ∃ g' : Sgs, ldSgs l.length k g ⟨encIds f l ++ u, false⟩ = some (k ++ l, g', ⟨u, false⟩) ∧ ∀ i, g' i = if i ∈ l then f i else g i
  | [], k, _, _, g, u => by
    refine ⟨g, ?_, fun i => ?_⟩
    · rw [List.append_nil]; rfl
    · rw [if_neg List.not_mem_nil]
  | x :: l, k, hp, h, g, u => by
    obtain ⟨h1, h2⟩ := h x (by simp)
    obtain ⟨s, hfs⟩ := Option.isSome_iff_exists.1 h2
    have hso := hs x s hfs
    obtain ⟨g', e, hg⟩ := ldSgs_back f hs l (k ++ [x]) (by simpa using hp) (fun y hy => h y (by simp [hy])) (put g x s) u
    refine ⟨g', ?_, fun i => ?_⟩
    · rw [List.length_cons]
      unfold ldSgs encIds
      rw [List.flatMap_cons, hfs]
      simp only [Option.getD_some, List.append_assoc]
      rw [num_back h1]
      simp only
      rw [rdSg_back hso]
      simp only
      have hl : ¬ (k ≠ [] ∧ x ≤ lastN k) := by
        rintro ⟨hk, hle⟩
        unfold lastN at hle
        cases hx : k.getLast? with
        | none => exact hk (List.getLast?_eq_none_iff.1 hx)
        | some y =>
          rw [hx] at hle
          have := (List.pairwise_append.1 hp).2.2 y (List.mem_of_getLast? hx) x (by simp)
          simp at hle
          omega
      rw [if_neg hl]
      have e' := e
      unfold encIds at e'
      rw [e']
      simp
    · rw [hg i]
      by_cases hi : i ∈ l
      · simp [hi]
      · by_cases hx : i = x
        · subst hx; simp [hi, put, hfs]
        · simp [hi, hx, put]
theorem num_ne (x : Nat) (u : List Int) : num x ++ u ≠ [] := by unfold num; simp
/-- what is saved is loaded -/
theorem load_save {m : Mach} (h : m.Ok) : load m.save = some m := by
  have hne : m.save ≠ [] := by
    unfold Mach.save encTab
    simp only [List.append_assoc]
    exact num_ne _ _
  unfold load
  rw [if_neg hne]
  unfold Mach.save ldMach
  rw [List.append_assoc, rdTab_back h.tab]
  simp only
  rw [up_back h.len (by omega)]
  simp only
  obtain ⟨g, e, hg⟩ := ldSgs_back m.sagas h.sound m.ids [] (by simpa using h.asc) (fun i hi => ⟨h.ids i hi, (h.has i).2 hi⟩) (fun _ => none) []
  rw [List.append_nil] at e
  rw [e]
  have hgm : g = m.sagas := by
    funext i
    rw [hg i]
    by_cases hi : i ∈ m.ids
    · rw [if_pos hi]
    · rw [if_neg hi]
      cases hm : m.sagas i with
      | none => rfl
      | some s => exact absurd ((h.has i).1 (by rw [hm]; rfl)) hi
  simp [RD.done, hgm]
end Mc
end Go.Proofs.Ytogeeeigfhmpmaa

/- What holds of every machine: a new one has it, and each command keeps it (plain data). -/
namespace Go.Proofs.Ytogeeeigfhmpmaa
namespace Mc
open Pk
theorem Rep.Ok.lit {e : Int} (h0 : 0 ≤ e) (h1 : e ≤ 52) : Rep.Ok ⟨e, 0, 0⟩ := ⟨h0, h1, by show 0 < _; decide, by show 0 < _; decide⟩
theorem Tab.new_ok : Tab.new.Ok := ⟨by decide, by decide, by decide, by decide, List.Pairwise.nil, by simp [Tab.new], by simp [Tab.new], by simp [Tab.new], by simp [Tab.new]⟩
theorem Mach.new_ok : Mach.new.Ok := ⟨Tab.new_ok, by decide, List.Pairwise.nil, by simp [Mach.new], fun i => by simp [Mach.new], fun i s h => by cases h⟩
theorem Tab.Ok.clock {t : Tab} (h : t.Ok) {now : Nat} (hn : now < 18446744073709551616) : (t.clock now).Ok := by
  unfold Tab.clock
  split
  · exact h
  · rename_i hlt
    have hs : (t.rows.filter (fun x => decide (now - x.used ≤ 1000))).Sublist t.rows := List.filter_sublist
    exact ⟨hn, h.next, h.next0, Nat.le_trans hs.length_le h.len, h.asc.sublist hs, fun x hx => h.rows x (hs.subset hx), fun x hx => h.below x (hs.subset hx),
      fun x hx => by have := h.used x (hs.subset hx); show x.used ≤ now; omega, fun x hx => by simpa using (List.mem_filter.1 hx).2⟩
theorem Tab.Ok.register {t : Tab} (h : t.Ok) : t.register.1.Ok ∧ Rep.Ok ⟨t.register.2.2, t.register.2.1, 0⟩ := by
  have hn := h.next
  unfold Tab.register
  split
  · exact ⟨h, Rep.Ok.lit (e := 11) (by decide) (by decide)⟩
  · rename_i hc
    refine ⟨⟨h.now, by show t.next + 1 < _; omega, by show 0 < t.next + 1; omega, by simp; omega, ?_, ?_, ?_, ?_, ?_⟩, ⟨by show (0 : Int) ≤ 0; decide, by show (0 : Int) ≤ 52; decide, hn, by show 0 < _; decide⟩⟩
    · refine List.pairwise_append.2 ⟨h.asc, List.pairwise_singleton _ _, fun x hx y hy => ?_⟩
      simp at hy
      subst hy
      exact h.below x hx
    · intro x hx
      rcases List.mem_append.1 hx with hx | hx
      · exact h.rows x hx
      · simp at hx
        subst hx
        exact ⟨h.next0, by show 0 < _; decide, Rep.Ok.lit (e := 0) (by decide) (by decide)⟩
    · intro x hx
      show x.id < t.next + 1
      rcases List.mem_append.1 hx with hx | hx
      · have := h.below x hx; omega
      · simp at hx; subst hx; exact Nat.lt_succ_self _
    · intro x hx
      rcases List.mem_append.1 hx with hx | hx
      · exact h.used x hx
      · simp at hx; subst hx; exact Nat.le_refl _
    · intro x hx
      rcases List.mem_append.1 hx with hx | hx
      · exact h.life x hx
      · simp at hx; subst hx; show t.now - t.now ≤ 1000; omega
/-- one session is turned, its number stays -/
theorem Tab.Ok.turn {t : Tab} (h : t.Ok) (i : Nat) (f : Ses → Ses) (hid : ∀ x, (f x).id = x.id) (hok : ∀ x, x.Ok → (f x).Ok) (hu : ∀ x, x.used ≤ t.now → t.now - x.used ≤ 1000 → (f x).used ≤ t.now ∧ t.now - (f x).used ≤ 1000) :
    (⟨t.now, t.next, t.rows.modify i f⟩ : Tab).Ok := by
  have hm : ∀ x ∈ t.rows.modify i f, ∃ y ∈ t.rows, x = y ∨ x = f y := by
    intro x hx
    obtain ⟨j, hj, rfl⟩ := List.mem_iff_getElem.1 hx
    rw [List.getElem_modify]
    rw [List.length_modify] at hj
    refine ⟨t.rows[j], List.getElem_mem hj, ?_⟩
    split
    · exact .inr rfl
    · exact .inl rfl
  refine ⟨h.now, h.next, h.next0, by simpa using h.len, ?_, ?_, ?_, ?_, ?_⟩
  · rw [List.pairwise_iff_getElem]
    intro a b ha hb hab
    simp only [List.length_modify] at ha hb
    have := List.pairwise_iff_getElem.1 h.asc a b (by simpa using ha) (by simpa using hb) hab
    simp only [List.getElem_modify]
    split <;> split <;> (try simp only [hid]) <;> exact this
  · intro x hx
    obtain ⟨y, hy, rfl | rfl⟩ := hm x hx
    · exact h.rows _ hy
    · exact hok _ (h.rows y hy)
  · intro x hx
    obtain ⟨y, hy, rfl | rfl⟩ := hm x hx
    · exact h.below _ hy
    · rw [hid]; exact h.below y hy
  · intro x hx
    obtain ⟨y, hy, rfl | rfl⟩ := hm x hx
    · exact h.used _ hy
    · exact (hu y (h.used y hy) (h.life y hy)).1
  · intro x hx
    obtain ⟨y, hy, rfl | rfl⟩ := hm x hx
    · exact h.life _ hy
    · exact (hu y (h.used y hy) (h.life y hy)).2
theorem find_lt {l : List Ses} {id i : Nat} (h : find l id = some i) : ∃ hi : i < l.length, l[i].id = id := by
  unfold find at h
  obtain ⟨hi, h1, _⟩ := List.findIdx?_eq_some_iff_getElem.1 h
  exact ⟨hi, by simpa using h1⟩
theorem Tab.Ok.start {t : Tab} (h : t.Ok) (id seq : Nat) : (t.start id seq).1.Ok ∧ (t.start id seq).2.1.Ok := by
  unfold Tab.start
  cases hf : find t.rows id with
  | none => exact ⟨h, Rep.Ok.lit (by decide) (by decide)⟩
  | some i =>
    obtain ⟨hi, _⟩ := find_lt hf
    have h1 : (⟨t.now, t.next, Mc.used t.rows i t.now⟩ : Tab).Ok := h.turn i _ (fun _ => rfl) (fun x hx => ⟨hx.id0, hx.seq, hx.rep⟩) (fun x _ _ => ⟨Nat.le_refl _, by show t.now - t.now ≤ 1000; omega⟩)
    have h2 : (t.rows.getD i ⟨0, 0, 0, ⟨0, 0, 0⟩⟩).rep.Ok := by
      rw [List.getD_eq_getElem?_getD, List.getElem?_eq_getElem hi]
      exact (h.rows _ (List.getElem_mem hi)).rep
    simp only
    split
    · exact ⟨h1, h2⟩
    · split
      · exact ⟨h1, Rep.Ok.lit (by decide) (by decide)⟩
      · exact ⟨h1, Rep.Ok.lit (by decide) (by decide)⟩
theorem Tab.Ok.end_ {t : Tab} (h : t.Ok) (id : Nat) {seq : Nat} {y : Rep} (hs : seq < 18446744073709551616) (hy : y.Ok) : (t.end_ id seq y).Ok := by
  unfold Tab.end_
  cases find t.rows id with
  | none => exact h
  | some i => exact h.turn i _ (fun _ => rfl) (fun x hx => ⟨hx.id0, hs, hy⟩) (fun x a b => ⟨a, b⟩)
/-! sagas stay sound -/
theorem told_ok {s : Sg} (h : sound s = true) : (told s).Ok := by
  obtain ⟨h0, h1, h2, h3, h4, h5, h6⟩ := sound_up h
  exact ⟨by show (0 : Int) ≤ 0; decide, by show (0 : Int) ≤ 52; decide, by show s.state.toNat < _; omega, by show s.cursor.toNat < _; omega⟩
theorem okSs_pos {l : List Stp} (h : okSs l = true) : 1 ≤ l.length ∧ l.length ≤ 64 ∧ ∀ t ∈ l, okS t = true := by
  unfold okSs at h
  simp only [Bool.and_eq_true, decide_eq_true_eq, List.all_eq_true] at h
  exact ⟨h.1.1, h.1.2, h.2⟩
theorem fresh_sound {l : List Stp} (h : okSs l = true) : sound (fresh l) = true := by
  have := okSs_pos h
  unfold sound fresh within
  simp [h]
  omega
theorem budget_ge {s : Sg} (h : okSs s.steps = true) (h0 : 0 ≤ s.cursor) (h1 : s.cursor < s.steps.length) : 1 ≤ budgetAt s := by
  unfold budgetAt
  rw [List.getD_eq_getElem?_getD, List.getElem?_map, List.getElem?_eq_getElem (by omega)]
  have := (okSs_pos h).2.2 _ (List.getElem_mem (l := s.steps) (n := s.cursor.toNat) (by omega))
  unfold okS at this
  simp only [Bool.and_eq_true, decide_eq_true_eq] at this
  simp
  omega
theorem backTo_sound {s : Sg} (h : okSs s.steps = true) {k : Int} (hk : k < s.steps.length) : sound (backTo s k) = true := by
  unfold backTo
  split
  · unfold sound; simp [h]
  · have hb := budget_ge (s := ⟨s.steps, 2, k, 0⟩) h (by show 0 ≤ k; omega) hk
    unfold sound within
    simp [h]
    omega
theorem sound_parts {s : Sg} (h : sound s = true) : okSs s.steps = true ∧ 0 ≤ s.failed ∧
    ((s.state = 1 ∧ (0 ≤ s.cursor ∧ s.cursor < s.steps.length) ∧ s.failed = 0) ∨ (s.state = 2 ∧ (0 ≤ s.cursor ∧ s.cursor < s.steps.length) ∧ s.failed < budgetAt s) ∨ (s.state = 3 ∧ s.cursor = s.steps.length ∧ s.failed = 0) ∨
     (s.state = 4 ∧ s.cursor = 0 ∧ s.failed = 0) ∨ (s.state = 5 ∧ (0 ≤ s.cursor ∧ s.cursor < s.steps.length) ∧ s.failed = budgetAt s)) := by
  unfold sound within at h
  simp only [Bool.and_eq_true, Bool.or_eq_true, decide_eq_true_eq] at h
  obtain ⟨⟨h0, h1⟩, h⟩ := h
  refine ⟨h0, h1, ?_⟩
  rcases h with (((h | h) | h) | h) | h
  · exact .inl ⟨h.1.1, h.1.2, h.2⟩
  · exact .inr (.inl ⟨h.1.1, h.1.2, h.2⟩)
  · exact .inr (.inr (.inl ⟨h.1.1, h.1.2, h.2⟩))
  · exact .inr (.inr (.inr (.inl ⟨h.1.1, h.1.2, h.2⟩)))
  · exact .inr (.inr (.inr (.inr ⟨h.1.1, h.1.2, h.2⟩)))
theorem abort_sound {s : Sg} (h : sound s = true) : sound (abort s).1 = true := by
  unfold abort
  split
  · rename_i hc
    obtain ⟨h0, _, hp⟩ := sound_parts h
    refine backTo_sound h0 ?_
    rcases hp with hp | hp | hp | hp | hp <;> omega
  · exact h
theorem outcome_sound {s : Sg} (h : sound s = true) (step : Int) (taken : Bool) (try_ : Int) (ok : Bool) : sound (outcome s step taken try_ ok).1 = true := by
  obtain ⟨h0, hf, hp⟩ := sound_parts h
  have hl := okSs_pos h0
  unfold outcome
  split
  · rename_i hc
    obtain ⟨_, hs2, rfl, ht, ho⟩ := hc
    have hcur : 0 ≤ s.cursor ∧ s.cursor < s.steps.length := by rcases hp with hp | hp | hp | hp | hp <;> omega
    by_cases hA : taken = false ∧ ok = true
    · rw [if_pos hA]
      have hst : s.state = 1 := by
        rw [hA.1] at ht
        have : ¬ s.state = 2 := by simpa using ht.symm
        omega
      have hf0 : s.failed = 0 := by rcases hp with hp | hp | hp | hp | hp <;> omega
      simp only
      split
      · rename_i hlast
        unfold sound
        simp [h0, hf0, hlast]
      · rename_i hlast
        unfold sound within
        simp [h0, hf0, hst]
        omega
    · rw [if_neg hA]
      by_cases hB : taken = false ∨ ok = true
      · rw [if_pos hB]
        exact backTo_sound h0 (by omega)
      · rw [if_neg hB]
        have htt : taken = true := by cases taken; exact absurd (.inl rfl) hB; rfl
        have hst : s.state = 2 := by rw [htt] at ht; simpa using ht.symm
        have hfb : s.failed < budgetAt s := by
          rcases hp with hp | hp | hp | hp | hp
          · omega
          · exact hp.2.2
          · omega
          · omega
          · omega
        by_cases he : s.failed + 1 = budgetAt s
        · have e2 : budgetAt ⟨s.steps, 5, s.cursor, s.failed + 1⟩ = budgetAt s := rfl
          simp only [if_pos he]
          unfold sound within
          simp only [e2]
          simp [h0, he]
          omega
        · have e2 : budgetAt ⟨s.steps, s.state, s.cursor, s.failed + 1⟩ = budgetAt s := rfl
          simp only [if_neg he]
          unfold sound within
          simp only [e2]
          simp [h0, hst]
          omega
  · exact h
/-! numbers in order -/
theorem mem_insert {l : List Nat} {id i : Nat} : i ∈ insert l id ↔ i = id ∨ i ∈ l := by
  unfold insert
  have e := List.takeWhile_append_dropWhile (p := fun i => decide (i < id)) (l := l)
  constructor
  · intro h
    rcases List.mem_append.1 h with h | h
    · exact .inr (e ▸ List.mem_append_left _ h)
    · rcases List.mem_cons.1 h with h | h
      · exact .inl h
      · exact .inr (e ▸ List.mem_append_right _ h)
  · rintro (rfl | h)
    · exact List.mem_append_right _ (List.mem_cons_self ..)
    · rw [← e] at h
      rcases List.mem_append.1 h with h | h
      · exact List.mem_append_left _ h
      · exact List.mem_append_right _ (List.mem_cons_of_mem _ h)
theorem insert_length (l : List Nat) (id : Nat) : (insert l id).length = l.length + 1 := by
  unfold insert
  have e := congrArg List.length (List.takeWhile_append_dropWhile (p := fun i => decide (i < id)) (l := l))
  rw [List.length_append] at e
  rw [List.length_append, List.length_cons]
  omega
theorem takeWhile_lt {id : Nat} : ∀ (l : List Nat), ∀ x ∈ l.takeWhile (fun i => decide (i < id)), x < id
  | [], x, h => by cases h
  | a :: l, x, h => by
    rw [List.takeWhile_cons] at h
    split at h
    · rename_i ha
      rcases List.mem_cons.1 h with h | h
      · subst h; simpa using ha
      · exact takeWhile_lt l x h
    · cases h
theorem dropWhile_ge {id : Nat} : ∀ (l : List Nat) (_ : l.Pairwise (· < ·)), ∀ x ∈ l.dropWhile (fun i => decide (i < id)), id ≤ x
  | [], _, x, h => by cases h
  | a :: l, hp, x, h => by
    rw [List.dropWhile_cons] at h
    obtain ⟨h1, h2⟩ := List.pairwise_cons.1 hp
    split at h
    · exact dropWhile_ge l h2 x h
    · rename_i ha
      have ha' : ¬ a < id := by simpa using ha
      rcases List.mem_cons.1 h with h | h
      · omega
      · have := h1 x h; omega
theorem insert_asc {l : List Nat} (h : l.Pairwise (· < ·)) {id : Nat} (hn : id ∉ l) : (insert l id).Pairwise (· < ·) := by
  have h' := h
  unfold insert
  have e := List.takeWhile_append_dropWhile (p := fun i => decide (i < id)) (l := l)
  rw [← e] at h'
  obtain ⟨h1, h2, h3⟩ := List.pairwise_append.1 h'
  refine List.pairwise_append.2 ⟨h1, List.pairwise_cons.2 ⟨fun y hy => ?_, h2⟩, fun x hx y hy => ?_⟩
  · have hge := dropWhile_ge l h y hy
    have hy' : y ∈ l := by rw [← e]; exact List.mem_append_right _ hy
    have : y ≠ id := fun e => hn (e ▸ hy')
    omega
  · rcases List.mem_cons.1 hy with hy | hy
    · subst hy; exact takeWhile_lt l x hx
    · exact h3 x hx y hy
theorem Mach.Ok.put_new {m : Mach} (h : m.Ok) {id : Nat} (hi : id < 18446744073709551616) (hn : m.sagas id = none) (hl : m.ids.length < 16) {s : Sg} (hs : Mc.sound s = true) : (⟨m.tab, insert m.ids id, put m.sagas id s⟩ : Mach).Ok := by
  have hni : id ∉ m.ids := fun hc => by have := (h.has id).2 hc; rw [hn] at this; cases this
  refine ⟨h.tab, by rw [insert_length]; omega, insert_asc h.asc hni, ?_, ?_, ?_⟩
  · intro i hx
    rcases mem_insert.1 hx with rfl | hx
    · exact hi
    · exact h.ids i hx
  · intro i
    show (if i = id then some s else m.sagas i).isSome = true ↔ _
    rw [mem_insert]
    by_cases e : i = id
    · simp [e]
    · simp [e, h.has i]
  · intro i t ht
    have ht' : (if i = id then some s else m.sagas i) = some t := ht
    by_cases e : i = id
    · rw [if_pos e] at ht'; cases ht'; exact hs
    · rw [if_neg e] at ht'; exact h.sound i t ht'
theorem Mach.Ok.put_old {m : Mach} (h : m.Ok) {id : Nat} {s0 : Sg} (hn : m.sagas id = some s0) {s : Sg} (hs : Mc.sound s = true) : (⟨m.tab, m.ids, put m.sagas id s⟩ : Mach).Ok := by
  refine ⟨h.tab, h.len, h.asc, h.ids, ?_, ?_⟩
  · intro i
    show (if i = id then some s else m.sagas i).isSome = true ↔ _
    by_cases e : i = id
    · subst e
      rw [if_pos rfl]
      have := (h.has i).1 (by rw [hn]; rfl)
      simp [this]
    · rw [if_neg e]; exact h.has i
  · intro i t ht
    have ht' : (if i = id then some s else m.sagas i) = some t := ht
    by_cases e : i = id
    · rw [if_pos e] at ht'; cases ht'; exact hs
    · rw [if_neg e] at ht'; exact h.sound i t ht'
theorem Mach.Ok.do_ {m : Mach} (h : m.Ok) {c : Cmd} (hc : may c = true) (hw : c.Wf) : (m.do_ c).1.Ok ∧ (m.do_ c).2.Ok := by
  unfold Mach.do_
  split
  · rename_i h2
    have hst : okSs c.steps = true := by
      unfold may at hc
      rw [if_neg (by omega), if_pos h2, Bool.and_eq_true] at hc
      exact hc.1
    cases hx : m.sagas c.saga with
    | some s => exact ⟨h, Rep.Ok.lit (by decide) (by decide)⟩
    | none =>
      simp only
      split
      · exact ⟨h, Rep.Ok.lit (by decide) (by decide)⟩
      · exact ⟨h.put_new hw.saga hx (by omega) (fresh_sound hst), told_ok (fresh_sound hst)⟩
  · split
    · cases hx : m.sagas c.saga with
      | none => exact ⟨h, Rep.Ok.lit (by decide) (by decide)⟩
      | some s =>
        have := abort_sound (h.sound _ _ hx)
        exact ⟨h.put_old hx this, told_ok this⟩
    · cases hx : m.sagas c.saga with
      | none => exact ⟨h, Rep.Ok.lit (by decide) (by decide)⟩
      | some s => exact ⟨h, told_ok (h.sound _ _ hx)⟩
theorem Mach.Ok.outcome {m : Mach} (h : m.Ok) (c : Cmd) : (m.outcome c).1.Ok ∧ (m.outcome c).2.Ok := by
  unfold Mach.outcome
  cases hx : m.sagas c.saga with
  | none => exact ⟨h, Rep.Ok.lit (by decide) (by decide)⟩
  | some s =>
    have := outcome_sound (h.sound _ _ hx) c.step c.back c.try_ c.ok
    simp only
    split
    · exact ⟨h.put_old hx this, told_ok this⟩
    · exact ⟨h, Rep.Ok.lit (by decide) (by decide)⟩
theorem Mach.Ok.tabbed {m : Mach} (h : m.Ok) {t : Tab} (ht : t.Ok) : (⟨t, m.ids, m.sagas⟩ : Mach).Ok := ⟨ht, h.len, h.asc, h.ids, h.has, h.sound⟩
theorem Mach.Ok.apply {m : Mach} (h : m.Ok) {s : List Int} (hb : Byt s) : (m.apply s).1.Ok ∧ (m.apply s).2.Ok := by
  unfold Mach.apply
  cases hd : dec s with
  | none => exact ⟨h, Rep.Ok.lit (by decide) (by decide)⟩
  | some c =>
    have hw := dec_wf hb hd
    have hm := (dec_canon hb hd).2
    have h1 := h.tabbed (h.tab.clock hw.now)
    simp only
    split
    · have := (h.tab.clock hw.now).register
      exact ⟨h1.tabbed this.1, this.2⟩
    · split
      · exact h1.outcome c
      · have h2 := (h.tab.clock hw.now).start c.session c.seq
        have h3 := h1.tabbed h2.1
        split
        · exact ⟨h3, h2.2⟩
        · have h4 := h3.do_ hm hw
          exact ⟨h4.1.tabbed (h4.1.tab.end_ _ hw.seq h4.2), h4.2⟩
end Mc
end Go.Proofs.Ytogeeeigfhmpmaa

/- The table of sessions in memory; session.Table's find. -/
namespace Go.Proofs.Ytogeeeigfhmpmaa
open Go.RowKit
set_option maxRecDepth 100000

def sesK : RowK Mc.Ses := ⟨fun x => [.int .u64 x.id, .int .u64 x.used, .int .u64 x.seq, .int .i64 x.rep.err, .int .u64 x.rep.num, .int .u64 x.rep.extra], 6, ⟨0, 0, 0, ⟨0, 0, 0⟩⟩, by decide, fun _ => rfl, by
  intro x u hu
  simp at hu
  rcases hu with rfl | rfl | rfl | rfl | rfl | rfl <;> rfl⟩
theorem sesT : RowT Try.prog sesK 58 55 (.agg #[.int .u64 0, .int .u64 0, .int .u64 0, .int .i64 0, .int .u64 0, .int .u64 0]) 48 := ⟨by kernel_rfl, by kernel_rfl, rfl, by decide⟩
/-- block tb is a table, v its row -/
structure TabAt (w : World) (tb : Nat) (v : Value) (t : Mc.Tab) : Prop where
  blk : Blk w tb #[.int .u64 t.now, .int .u64 t.next, v] 112
  row : RowAt sesK 58 w 0 v t.rows
/-- behind a call the table is t' -/
structure TabTo (tb : Nat) (v : Value) (t' : Mc.Tab) (w w' : World) (v' : Value) : Prop where
  tab : TabAt w' tb v' t'
  row : ∀ k, v'.ownBlock = some k → v.ownBlock = some k ∨ w.heap.size ≤ k
  only : Only (fun k => k = tb ∨ v.ownBlock = some k) w w'
section
variable {w w' : World} {tb : Nat} {v : Value} {t : Mc.Tab}
theorem TabAt.keeps {S : Nat → Prop} (h : TabAt w tb v t) (ho : Only S w w') (h1 : ¬ S tb) (h2 : ∀ k, v.ownBlock = some k → ¬ S k) : TabAt w' tb v t := ⟨h.blk.keeps ho h1, h.row.keeps ho h2⟩
theorem TabAt.keepsN (h : TabAt w tb v t) (ho : Only NoBlock w w') : TabAt w' tb v t := h.keeps ho (fun h => h) (fun _ _ h => h)
theorem TabAt.apart (h : TabAt w tb v t) : ∀ k, v.ownBlock = some k → k ≠ tb := fun _ hk => (h.row.ofT hk).ne_blk h.blk (by decide)
end
def findV (t : Mc.Tab) (id : Nat) : Int := match Mc.find t.rows id with | some i => (i : Int) | none => -1
theorem find_stop {l : List Mc.Ses} {id k : Nat} (hk : k < l.length) (h0 : ∀ j (hj : j < l.length), j < k → l[j].id ≠ id) (h1 : l[k].id = id) : Mc.find l id = some k := by
  unfold Mc.find
  rw [List.findIdx?_eq_some_iff_getElem]
  refine ⟨hk, by simpa using h1, fun j hj => ?_⟩
  simpa using h0 j (by omega) hj
theorem find_end {l : List Mc.Ses} {id : Nat} (h0 : ∀ j (hj : j < l.length), l[j].id ≠ id) : Mc.find l id = none := by
  unfold Mc.find
  rw [List.findIdx?_eq_none_iff]
  intro x hx
  obtain ⟨j, hj, rfl⟩ := List.mem_iff_getElem.1 hx
  simpa using h0 j hj

set_option maxHeartbeats 1600000 in
theorem sfind_at (w : World) (tb : Nat) (v : Value) (t : Mc.Tab) (h : TabAt w tb v t) (hl : t.rows.length ≤ 16) (id : Nat) :
    Calls Try.prog 61 #[.pointer (some ⟨tb, 0, none⟩), .int .u64 id] w fun e w' => e = .returned (.int .i64 (findV t id)) ∧ Only NoBlock w w' := by
  obtain ⟨now, next, l⟩ := t
  obtain ⟨hB, hrow⟩ := h
  simp only at hB hrow hl
  obtain ⟨ao, cap, rfl, hin⟩ := hrow.read
  have c2 := hB.cell 2
  simp only [List.getElem?_toArray, List.getElem?_cons_succ, List.getElem?_cons_zero] at c2
  go_enter Try.func61, Try.ntmps61
  go_wp2_with fail
  go_loopw [14] (fun v14 wr => ∃ k : Nat, k ≤ l.length ∧ v14 = .int .i64 k ∧ RowKit.Hid (∀ j (hj : j < l.length), j < k → l[j].id ≠ id) ∧ Only NoBlock w wr) (fun v14 _ => l.length - (intOf v14).toNat)
  case atStart => exact ⟨0, by omega, rfl, Lib.hid (fun j _ hj => by omega), Only.refl _ _⟩
  case round =>
    obtain ⟨k, hk, rfl, HN, hO⟩ := hrel
    by_cases hlt : k < l.length
    · have hin2 := hin.keepsN hO
      obtain ⟨b, off, rfl⟩ := hin2.shape (by omega)
      have hg : l.getD k sesK.zero = l[k] := by rw [List.getD_eq_getElem?_getD, List.getElem?_eq_getElem hlt]; rfl
      have e0 := hin2.at hlt (j := 0) (by decide)
      have e1 := hin2.at hlt (j := 1) (by decide)
      have e2 := hin2.at hlt (j := 2) (by decide)
      have e3 := hin2.at hlt (j := 3) (by decide)
      have e4 := hin2.at hlt (j := 4) (by decide)
      have e5 := hin2.at hlt (j := 5) (by decide)
      rw [hg] at e0 e1 e2 e3 e4 e5
      obtain ⟨⟨xi, xu, xs, ⟨ye, yn, yx⟩⟩, hx⟩ : ∃ x, l[k] = x := ⟨_, rfl⟩
      rw [hx] at e0 e1 e2 e3 e4 e5
      have HX := Lib.hid hx
      clear hx hg hin hin2
      simp only [sesK, List.getElem?_cons_succ, List.getElem?_cons_zero, Nat.add_zero] at e0 e1 e2 e3 e4 e5
      have hA := (Only.refl NoBlock wr).alloc (Obj.cells #[.int .u64 xi, .int .u64 xu, .int .u64 xs, .int .i64 ye, .int .u64 yn, .int .u64 yx] 58)
      by_cases hid : xi = id
      · have d0 : ((xi : Int) == (id : Int)) = true := by simp; omega
        have HF : RowKit.Hid (findV ⟨now, next, l⟩ id = (k : Int)) := Lib.hid (by unfold findV; simp only; rw [find_stop hlt HN.out (by rw [HX.out]; exact hid)])
        clear hid
        go_wp2_with fail
        go_ret
        exact ⟨by rw [HF.out]; rfl, hO.trans hA⟩
      · have d0 : ((xi : Int) == (id : Int)) = false := by simp; omega
        have HN2 : RowKit.Hid (∀ j (hj : j < l.length), j < k + 1 → l[j].id ≠ id) := Lib.hid (fun j hj hjk => by
          by_cases hjk' : j < k
          · exact HN.out j hj hjk'
          · obtain rfl : j = k := by omega
            rw [HX.out]; exact hid)
        clear hid
        go_wp2_with fail
        go_roundw
        case rel => exact ⟨k + 1, by omega, by go_num, HN2, hO.trans hA⟩
        case measure =>
          (try simp [intOf])
          (try omega)
    · obtain rfl : k = l.length := by omega
      have HF : RowKit.Hid (findV ⟨now, next, l⟩ id = -1) := Lib.hid (by unfold findV; simp only; rw [find_end (fun j hj => HN.out j hj hj)])
      go_wp2_with fail
      go_ret
      exact ⟨by rw [HF.out]; rfl, hO⟩
end Go.Proofs.Ytogeeeigfhmpmaa

/- session.Table's Clock, Register. -/
namespace Go.Proofs.Ytogeeeigfhmpmaa
open Go.RowKit
set_option maxRecDepth 100000

theorem filter_take_yes {p : Mc.Ses → Bool} {l : List Mc.Ses} {k : Nat} (hk : k < l.length) (h : p l[k] = true) : (l.take (k + 1)).filter p = (l.take k).filter p ++ [l[k]] := by
  rw [List.take_succ_eq_append_getElem hk, List.filter_append]
  simp [h]
theorem filter_take_no {p : Mc.Ses → Bool} {l : List Mc.Ses} {k : Nat} (hk : k < l.length) (h : p l[k] = false) : (l.take (k + 1)).filter p = (l.take k).filter p := by
  rw [List.take_succ_eq_append_getElem hk, List.filter_append]
  simp [h]
set_option maxHeartbeats 1600000 in
theorem clock_at (w : World) (tb : Nat) (v : Value) (t : Mc.Tab) (h : TabAt w tb v t) (hk : t.Ok) (now : Nat) (hn : now < 18446744073709551616) :
    Calls Try.prog 27 #[.pointer (some ⟨tb, 0, none⟩), .int .u64 now] w fun e w' => e = .returned (.tuple #[]) ∧ ∃ v', TabTo tb v (t.clock now) w w' v' := by
  have hused := hk.used
  have hlen := hk.len
  obtain ⟨tnow, next, l⟩ := t
  have h0 := h
  obtain ⟨hB, hrow⟩ := h
  simp only at hB hrow hused hlen
  have htl := hB.lt
  have c0 := hB.cell 0
  have f0 := hB.free 0
  simp only [List.getElem?_toArray, List.getElem?_cons_zero] at c0
  by_cases hle : now ≤ tnow
  · have HC : RowKit.Hid (Mc.Tab.clock ⟨tnow, next, l⟩ now = ⟨tnow, next, l⟩) := Lib.hid (by unfold Mc.Tab.clock; rw [if_pos hle])
    have d0 : decide ((now : Int) ≤ (tnow : Int)) = true := by simp; omega
    have d1 : decide (now ≤ tnow) = true := by simp; omega
    clear hle
    go_enter Try.func27, Try.ntmps27
    go_wp2_with fail
    refine bodyPost_ret (results_none rfl _ _ _) rfl ?_
    exact ⟨rfl, v, by rw [HC.out]; exact ⟨h0, fun k hk => .inl hk, Only.refl _ _⟩⟩
  · have HC : RowKit.Hid (Mc.Tab.clock ⟨tnow, next, l⟩ now = ⟨now, next, l.filter (fun x => decide (now - x.used ≤ 1000))⟩) := Lib.hid (by unfold Mc.Tab.clock; rw [if_neg hle])
    have d0 : decide ((now : Int) ≤ (tnow : Int)) = false := by simp; omega
    have d1 : decide (now ≤ tnow) = false := by simp; omega
    have HT : RowKit.Hid (∀ x ∈ l, x.used ≤ now) := Lib.hid (fun x hx => by have := hused x hx; omega)
    clear hle hused hk h0
    go_enter Try.func27, Try.ntmps27
    go_upto_region 2 with fail
    have hB1 : Blk (w.setCell ⟨tb, 0, none⟩ (.int .u64 (now : Int))) tb #[.int .u64 now, .int .u64 next, v] 112 := hB.setCell 0 (.int .u64 (now : Int))
    have hO1 := (Only.refl (fun k => k = tb) w).setCell (p := ⟨tb, 0, none⟩) (fun _ => rfl) (.int .u64 (now : Int))
    have hrow1 := hrow.keeps hO1 (fun k hk e => (hrow.ofT hk).ne_blk hB (by decide) e)
    generalize w.setCell ⟨tb, 0, none⟩ (.int .u64 (now : Int)) = w1 at hB1 hO1 hrow1 ⊢
    clear c0 f0 hB hrow
    obtain ⟨ao, cap, rfl, hin⟩ := hrow1.read
    have c2 := hB1.cell 2
    simp only [List.getElem?_toArray, List.getElem?_cons_succ, List.getElem?_cons_zero] at c2
    go_wp2_with fail
    go_loopw [4, 26] (fun v4 v26 wr => ∃ (k : Nat) (u : Value), k ≤ l.length ∧ v26 = .int .i64 k ∧ u = v4 ∧ RowAt sesK 58 wr w1.heap.size u ((l.take k).filter (fun x => decide (now - x.used ≤ 1000))) ∧ Only NoBlock w1 wr) (fun _ v26 _ => l.length - (intOf v26).toNat)
    case atStart => exact ⟨0, _, by omega, rfl, rfl, RowAt.nil _ _ _ _, Only.refl _ _⟩
    case round =>
      obtain ⟨k, u, hk, rfl, rfl, hru, hO⟩ := hrel
      by_cases hlt : k < l.length
      · have hin2 := hin.keepsN hO
        obtain ⟨b, off, rfl⟩ := hin2.shape (by omega)
        have hg : l.getD k sesK.zero = l[k] := by rw [List.getD_eq_getElem?_getD, List.getElem?_eq_getElem hlt]; rfl
        have e0 := hin2.at hlt (j := 0) (by decide)
        have e1 := hin2.at hlt (j := 1) (by decide)
        have e2 := hin2.at hlt (j := 2) (by decide)
        have e3 := hin2.at hlt (j := 3) (by decide)
        have e4 := hin2.at hlt (j := 4) (by decide)
        have e5 := hin2.at hlt (j := 5) (by decide)
        rw [hg] at e0 e1 e2 e3 e4 e5
        have hfy := filter_take_yes (p := fun x => decide (now - x.used ≤ 1000)) hlt
        have hfn := filter_take_no (p := fun x => decide (now - x.used ≤ 1000)) hlt
        have hxu := HT.out l[k] (List.getElem_mem hlt)
        obtain ⟨⟨xi, xu, xs, ⟨ye, yn, yx⟩⟩, hx⟩ : ∃ x, l[k] = x := ⟨_, rfl⟩
        rw [hx] at e0 e1 e2 e3 e4 e5 hfy hfn hxu
        have HX := Lib.hid hx
        clear hx hg hin2
        simp only [sesK, List.getElem?_cons_succ, List.getElem?_cons_zero, Nat.add_zero] at e0 e1 e2 e3 e4 e5
        simp only at hxu hfy hfn
        have hA := (Only.refl NoBlock wr).alloc (Obj.cells #[.int .u64 xi, .int .u64 xu, .int .u64 xs, .int .i64 ye, .int .u64 yn, .int .u64 yx] 58)
        have hsz := hO.size
        have hsz1 := hO1.size
        have hxi : (xu : Int) ≤ (now : Int) := by omega
        have hln : ((l.take k).filter (fun x => decide (now - x.used ≤ 1000))).length ≤ 16 := Nat.le_trans (List.length_filter_le _ _) (by rw [List.length_take]; omega)
        generalize hfl : (l.take k).filter (fun x => decide (now - x.used ≤ 1000)) = fl at hru hln hfy hfn
        clear hfl
        by_cases hage : now - xu ≤ 1000
        · have HF : RowKit.Hid ((l.take (k + 1)).filter (fun x => decide (now - x.used ≤ 1000)) = fl ++ [⟨xi, xu, xs, ⟨ye, yn, yx⟩⟩]) := Lib.hid (hfy (by simpa using hage))
          have d2 : decide ((now : Int) - (xu : Int) ≤ 1000) = true := by simp; omega
          clear hfy hfn hage
          go_wp2_with (first
            | (at_builtin; refine wpList_append_row1 sesT _ rfl _ _ rfl w1.heap.size _ fl ⟨xi, xu, xs, ⟨ye, yn, yx⟩⟩ (wr.heap.size + 1) 1 rfl ((hru.keepsN hA).keepsN ((Only.refl NoBlock _).alloc _)) rfl (made_cells sesK _ _ _ (by simp) _ _ rfl) (by omega) (by simp; omega) ?_; intro v8 w8 hrow8 hg8 hv8))
          have hO8 : Only NoBlock w1 w8 := ((hO.trans hA).alloc _).appended ((hru.keepsN hA).keepsN ((Only.refl NoBlock _).alloc _)) (Nat.le_refl _) hg8
          go_roundw
          case rel => exact ⟨k + 1, _, by omega, by go_num, rfl, by rw [HF.out]; exact hrow8, hO8⟩
          case measure => simp [intOf]; omega
        · have HF : RowKit.Hid ((l.take (k + 1)).filter (fun x => decide (now - x.used ≤ 1000)) = fl) := Lib.hid (hfn (by simpa using hage))
          have d2 : decide ((now : Int) - (xu : Int) ≤ 1000) = false := by simp; omega
          clear hfy hfn hage
          go_wp2_with fail
          go_roundw
          case rel => exact ⟨k + 1, u, by omega, by go_num, rfl, by rw [HF.out]; exact hru.keepsN hA, hO.trans hA⟩
          case measure => simp [intOf]; omega
      · obtain rfl : k = l.length := by omega
        rw [List.take_length] at hru
        have hB2 := hB1.keeps hO (fun h => h)
        have f2 := hB2.free 2
        have c2' := hB2.cell 2
        simp only [List.getElem?_toArray, List.getElem?_cons_succ, List.getElem?_cons_zero] at c2'
        generalize hfl : l.filter (fun x => decide (now - x.used ≤ 1000)) = fl at hru
        have HFL := Lib.hid hfl
        clear hfl
        obtain ⟨ao2, cap2, rfl⟩ := hru.shape
        go_wp2_with fail
        go_end0
        have hap : ∀ j, (Value.slice ao2 fl.length cap2).ownBlock = some j → j ≠ tb := fun j hj => (hru.ofT hj).ne_blk hB2 (by decide)
        have hS := (Only.refl (fun k => k = tb) wr).setCell (p := ⟨tb, 2, none⟩) (fun _ => rfl) (.slice ao2 fl.length cap2)
        refine ⟨rfl, .slice ao2 fl.length cap2, ?_⟩
        rw [HC.out, HFL.out]
        refine ⟨⟨hB2.setCell 2 (.slice ao2 fl.length cap2), (hru.keeps hS hap).lower (Nat.zero_le _)⟩, fun j hj => .inr (Nat.le_trans hO1.size (World.ownsRow.lt hru j hj).1), ?_⟩
        exact ((hO1.trans hO.of_no).trans hS).mono (fun k hk => .inl hk)
end Go.Proofs.Ytogeeeigfhmpmaa

/- saga.Sound, Ended, Wants: can a saga be, has it ended, what does it wait for? -/
namespace Go.Proofs.Ytogeeeigfhmpmaa
open Go.RowKit
set_option maxRecDepth 100000

/-- a saga's value: its steps lie at ao -/
def sgV (s : Mc.Sg) (ao : Option Addr) (cap : Nat) : Value := .agg #[.slice ao s.steps.length cap, .int .i64 s.state, .int .i64 s.cursor, .int .i64 s.failed]
theorem budget_cell {w : World} {b off : Nat} {l : List Pk.Stp} (h : RowIn stpK 38 w (some ⟨b, off, none⟩) l) {k : Nat} (hk : k < l.length) (st fa : Int) : w.cell? ⟨b, off + k * 3 + 2, none⟩ = some (.int .i64 (Mc.budgetAt ⟨l, st, (k : Int), fa⟩)) := by
  have := h.at hk (j := 2) (by decide)
  refine this.trans ?_
  unfold Mc.budgetAt
  simp only [Int.toNat_natCast]
  rw [List.getD_eq_getElem?_getD, List.getD_eq_getElem?_getD, List.getElem?_map, List.getElem?_eq_getElem hk]
  rfl
set_option maxHeartbeats 4000000 in
theorem sound_at (w : World) (s : Mc.Sg) (ao : Option Addr) (cap : Nat) (hsm : Smalls s.steps) (hrow : RowIn stpK 38 w ao s.steps) :
    Calls Try.prog 75 #[sgV s ao cap] w fun e w' => e = .returned (.bool (Mc.sound s)) ∧ Only NoBlock w w' := by
  obtain ⟨l, st, cu, fa⟩ := s
  simp only at hsm hrow
  have hn64 := hsm.1
  have hA := (Only.refl NoBlock w).alloc (Obj.cells #[.slice ao l.length cap, .int .i64 st, .int .i64 cu, .int .i64 fa] 63)
  have hB := Blk.made w #[.slice ao l.length cap, .int .i64 st, .int .i64 cu, .int .i64 fa] 63
  have hrA := hrow.keepsN hA
  have hck := checkS_at _ ao cap l hrA hsm
  show Calls Try.prog 75 #[.agg #[.slice ao l.length cap, .int .i64 st, .int .i64 cu, .int .i64 fa]] w _
  go_enter Try.func75, Try.ntmps75
  go_wp2_with fail
  refine hck.mono ?_
  rintro e w2 ⟨rfl, hO2⟩
  have hB2 := hB.keeps hO2 (fun h => h)
  have hr2 := hrA.keepsN hO2
  have hO := hA.trans hO2
  have c0 := hB2.cell 0
  have c1 := hB2.cell 1
  have c2 := hB2.cell 2
  have c3 := hB2.cell 3
  simp only [List.getElem?_toArray, List.getElem?_cons_succ, List.getElem?_cons_zero] at c0 c1 c2 c3
  generalize w.heap.size = S at c0 c1 c2 c3 ⊢
  clear hck hrA hA hB hO2 hB2 hrow hsm
  cases hok : Pk.okSs l with
  | false =>
    have HB : RowKit.Hid (Mc.sound ⟨l, st, cu, fa⟩ = false) := Lib.hid (by unfold Mc.sound; simp [hok])
    clear hok
    go_wp2_with fail
    go_ret
    exact ⟨by rw [HB.out]; rfl, hO⟩
  | true =>
  by_cases hf0 : fa < 0
  · have df : decide (fa < 0) = true := by simp; omega
    have HB : RowKit.Hid (Mc.sound ⟨l, st, cu, fa⟩ = false) := Lib.hid (by unfold Mc.sound; simp [hok]; intro; omega)
    clear hok hf0
    go_wp2_with fail
    go_ret
    exact ⟨by rw [HB.out]; rfl, hO⟩
  have df : decide (fa < 0) = false := by simp; omega
  by_cases s1 : st = 1
  · subst s1
    clear hr2
    by_cases h0 : 0 ≤ cu
    · have dh0 : decide (0 ≤ cu) = true := by simp; omega
      by_cases h1 : cu < l.length
      · have dh1 : decide (cu < (l.length : Int)) = true := by simp; omega
        by_cases h2 : fa = 0
        · have dh2 : (fa == 0) = true := by simp; omega
          have HB : RowKit.Hid (Mc.sound ⟨l, 1, cu, fa⟩ = true) := Lib.hid (by unfold Mc.sound Mc.within; simp [hok, h0, h1, h2]; try omega)
          clear hok hf0 h0 h1 h2
          go_wp2_with fail
          go_ret
          exact ⟨by rw [HB.out]; rfl, hO⟩
        · have dh2 : (fa == 0) = false := by simp; omega
          have HB : RowKit.Hid (Mc.sound ⟨l, 1, cu, fa⟩ = false) := Lib.hid (by unfold Mc.sound Mc.within; simp [hok, h0, h1, h2]; try omega)
          clear hok hf0 h0 h1 h2
          go_wp2_with fail
          go_ret
          exact ⟨by rw [HB.out]; rfl, hO⟩
      · have dh1 : decide (cu < (l.length : Int)) = false := by simp; omega
        have HB : RowKit.Hid (Mc.sound ⟨l, 1, cu, fa⟩ = false) := Lib.hid (by unfold Mc.sound Mc.within; simp [hok, h0, h1]; try omega)
        clear hok hf0 h0 h1
        go_wp2_with fail
        go_ret
        exact ⟨by rw [HB.out]; rfl, hO⟩
    · have dh0 : decide (0 ≤ cu) = false := by simp; omega
      have HB : RowKit.Hid (Mc.sound ⟨l, 1, cu, fa⟩ = false) := Lib.hid (by unfold Mc.sound Mc.within; simp [hok, h0]; try omega)
      clear hok hf0 h0
      go_wp2_with fail
      go_ret
      exact ⟨by rw [HB.out]; rfl, hO⟩
  by_cases s2 : st = 2
  · subst s2
    clear s1
    by_cases h0 : 0 ≤ cu
    · have dh0 : decide (0 ≤ cu) = true := by simp; omega
      by_cases h1 : cu < l.length
      · have dh1 : decide (cu < (l.length : Int)) = true := by simp; omega
        obtain ⟨k, rfl⟩ : ∃ k : Nat, cu = k := ⟨cu.toNat, by omega⟩
        obtain ⟨b, off, rfl⟩ := hr2.shape (by omega)
        have hbc := budget_cell hr2 (k := k) (by omega) 2 fa
        have hkl : k < l.length := by omega
        have dh0 : decide (0 ≤ (k : Int)) = true := by simp
        have dh1 : decide (k < l.length) = true := by simpa using hkl
        generalize hbg : Mc.budgetAt ⟨l, 2, (k : Int), fa⟩ = bg at hbc
        have HBG := Lib.hid hbg
        clear hbg hr2 h0 h1
        by_cases h3 : fa < bg
        · have d3 : decide (fa < bg) = true := by simp; omega
          have HB : RowKit.Hid (Mc.sound ⟨l, 2, (k : Int), fa⟩ = true) := Lib.hid (by unfold Mc.sound Mc.within; rw [HBG.out]; simp [hok]; omega)
          clear hok hf0 h3
          go_wp2_with fail
          go_quiet (fail)
          go_wp2_with fail
          go_ret
          exact ⟨by rw [HB.out]; rfl, hO.drewN _⟩
        · have d3 : decide (fa < bg) = false := by simp; omega
          have HB : RowKit.Hid (Mc.sound ⟨l, 2, (k : Int), fa⟩ = false) := Lib.hid (by unfold Mc.sound Mc.within; rw [HBG.out]; simp [hok]; omega)
          clear hok hf0 h3
          go_wp2_with fail
          go_quiet (fail)
          go_wp2_with fail
          go_ret
          exact ⟨by rw [HB.out]; rfl, hO.drewN _⟩
      · have dh1 : decide (cu < (l.length : Int)) = false := by simp; omega
        have HB : RowKit.Hid (Mc.sound ⟨l, 2, cu, fa⟩ = false) := Lib.hid (by unfold Mc.sound Mc.within; simp [hok]; omega)
        clear hok hf0 hr2 h0 h1
        go_wp2_with fail
        go_quiet (fail)
        go_wp2_with fail
        go_ret
        exact ⟨by rw [HB.out]; rfl, hO.drewN _⟩
    · have dh0 : decide (0 ≤ cu) = false := by simp; omega
      have HB : RowKit.Hid (Mc.sound ⟨l, 2, cu, fa⟩ = false) := Lib.hid (by unfold Mc.sound Mc.within; simp [hok]; omega)
      clear hok hf0 hr2 h0
      go_wp2_with fail
      go_quiet (fail)
      go_wp2_with fail
      go_ret
      exact ⟨by rw [HB.out]; rfl, hO.drewN _⟩
  by_cases s3 : st = 3
  · subst s3
    clear hr2 s1 s2
    by_cases h0 : cu = l.length
    · have dh0 : (cu == (l.length : Int)) = true := by simp; omega
      by_cases h2 : fa = 0
      · have dh2 : (fa == 0) = true := by simp; omega
        have HB : RowKit.Hid (Mc.sound ⟨l, 3, cu, fa⟩ = true) := Lib.hid (by unfold Mc.sound Mc.within; simp [hok, h0, h2]; try omega)
        clear hok hf0 h0 h2
        go_wp2_with fail
        go_ret
        exact ⟨by rw [HB.out]; rfl, hO⟩
      · have dh2 : (fa == 0) = false := by simp; omega
        have HB : RowKit.Hid (Mc.sound ⟨l, 3, cu, fa⟩ = false) := Lib.hid (by unfold Mc.sound Mc.within; simp [hok, h0, h2]; try omega)
        clear hok hf0 h0 h2
        go_wp2_with fail
        go_ret
        exact ⟨by rw [HB.out]; rfl, hO⟩
    · have dh0 : (cu == (l.length : Int)) = false := by simp; omega
      have HB : RowKit.Hid (Mc.sound ⟨l, 3, cu, fa⟩ = false) := Lib.hid (by unfold Mc.sound Mc.within; simp [hok, h0]; try omega)
      clear hok hf0 h0
      go_wp2_with fail
      go_ret
      exact ⟨by rw [HB.out]; rfl, hO⟩
  by_cases s4 : st = 4
  · subst s4
    clear hr2 s1 s2 s3
    by_cases h0 : cu = 0
    · have dh0 : (cu == 0) = true := by simp; omega
      by_cases h2 : fa = 0
      · have dh2 : (fa == 0) = true := by simp; omega
        have HB : RowKit.Hid (Mc.sound ⟨l, 4, cu, fa⟩ = true) := Lib.hid (by unfold Mc.sound Mc.within; simp [hok, h0, h2]; try omega)
        clear hok hf0 h0 h2
        go_wp2_with fail
        go_ret
        exact ⟨by rw [HB.out]; rfl, hO⟩
      · have dh2 : (fa == 0) = false := by simp; omega
        have HB : RowKit.Hid (Mc.sound ⟨l, 4, cu, fa⟩ = false) := Lib.hid (by unfold Mc.sound Mc.within; simp [hok, h0, h2]; try omega)
        clear hok hf0 h0 h2
        go_wp2_with fail
        go_ret
        exact ⟨by rw [HB.out]; rfl, hO⟩
    · have dh0 : (cu == 0) = false := by simp; omega
      have HB : RowKit.Hid (Mc.sound ⟨l, 4, cu, fa⟩ = false) := Lib.hid (by unfold Mc.sound Mc.within; simp [hok, h0]; try omega)
      clear hok hf0 h0
      go_wp2_with fail
      go_ret
      exact ⟨by rw [HB.out]; rfl, hO⟩
  by_cases s5 : st = 5
  · subst s5
    clear s1 s2 s3 s4
    by_cases h0 : 0 ≤ cu
    · have dh0 : decide (0 ≤ cu) = true := by simp; omega
      by_cases h1 : cu < l.length
      · have dh1 : decide (cu < (l.length : Int)) = true := by simp; omega
        obtain ⟨k, rfl⟩ : ∃ k : Nat, cu = k := ⟨cu.toNat, by omega⟩
        obtain ⟨b, off, rfl⟩ := hr2.shape (by omega)
        have hbc := budget_cell hr2 (k := k) (by omega) 5 fa
        have hkl : k < l.length := by omega
        have dh0 : decide (0 ≤ (k : Int)) = true := by simp
        have dh1 : decide (k < l.length) = true := by simpa using hkl
        generalize hbg : Mc.budgetAt ⟨l, 5, (k : Int), fa⟩ = bg at hbc
        have HBG := Lib.hid hbg
        clear hbg hr2 h0 h1
        by_cases h3 : fa = bg
        · have d3 : (fa == bg) = true := by simp; omega
          have HB : RowKit.Hid (Mc.sound ⟨l, 5, (k : Int), fa⟩ = true) := Lib.hid (by unfold Mc.sound Mc.within; rw [HBG.out]; simp [hok]; omega)
          clear hok hf0 h3
          go_wp2_with fail
          go_quiet (fail)
          go_wp2_with fail
          go_ret
          exact ⟨by rw [HB.out]; rfl, hO.drewN _⟩
        · have d3 : (fa == bg) = false := by simp; omega
          have HB : RowKit.Hid (Mc.sound ⟨l, 5, (k : Int), fa⟩ = false) := Lib.hid (by unfold Mc.sound Mc.within; rw [HBG.out]; simp [hok]; omega)
          clear hok hf0 h3
          go_wp2_with fail
          go_quiet (fail)
          go_wp2_with fail
          go_ret
          exact ⟨by rw [HB.out]; rfl, hO.drewN _⟩
      · have dh1 : decide (cu < (l.length : Int)) = false := by simp; omega
        have HB : RowKit.Hid (Mc.sound ⟨l, 5, cu, fa⟩ = false) := Lib.hid (by unfold Mc.sound Mc.within; simp [hok]; omega)
        clear hok hf0 hr2 h0 h1
        go_wp2_with fail
        go_quiet (fail)
        go_wp2_with fail
        go_ret
        exact ⟨by rw [HB.out]; rfl, hO.drewN _⟩
    · have dh0 : decide (0 ≤ cu) = false := by simp; omega
      have HB : RowKit.Hid (Mc.sound ⟨l, 5, cu, fa⟩ = false) := Lib.hid (by unfold Mc.sound Mc.within; simp [hok]; omega)
      clear hok hf0 hr2 h0
      go_wp2_with fail
      go_quiet (fail)
      go_wp2_with fail
      go_ret
      exact ⟨by rw [HB.out]; rfl, hO.drewN _⟩
  have HB : RowKit.Hid (Mc.sound ⟨l, st, cu, fa⟩ = false) := Lib.hid (by unfold Mc.sound; simp [hok, s1, s2, s3, s4, s5])
  have e1 : (st == 1) = false := by simp; omega
  have e2 : (st == 2) = false := by simp; omega
  have e3 : (st == 3) = false := by simp; omega
  have e4 : (st == 4) = false := by simp; omega
  have e5 : (st == 5) = false := by simp; omega
  clear hok hf0 hr2 s1 s2 s3 s4 s5
  go_wp2_with fail
  go_ret
  exact ⟨by rw [HB.out]; rfl, hO⟩
end Go.Proofs.Ytogeeeigfhmpmaa

/- saga.back, Abort, Ended, Wants; machine.told. -/
namespace Go.Proofs.Ytogeeeigfhmpmaa
open Go.RowKit
set_option maxRecDepth 100000

theorem u_sg : ∃ fs, Try.prog.underlying 63 = some (.struct fs) := ⟨_, rfl⟩
theorem size_sg : (Try.prog.info? 63).map (·.size) = some 4 := by kernel_rfl
theorem u_rep : ∃ fs, Try.prog.underlying 34 = some (.struct fs) := ⟨_, rfl⟩
theorem size_rep : (Try.prog.info? 34).map (·.size) = some 3 := by kernel_rfl
def repV (y : Mc.Rep) : Value := .agg #[.int .i64 y.err, .int .u64 y.num, .int .u64 y.extra]

set_option maxHeartbeats 1600000 in
theorem back_at (w : World) (s : Mc.Sg) (ao : Option Addr) (cap : Nat) (step : Int) :
    Calls Try.prog 79 #[sgV s ao cap, .int .i64 step] w fun e w' => e = .returned (sgV (Mc.backTo s step) ao cap) ∧ Only NoBlock w w' := by
  obtain ⟨l, st, cu, fa⟩ := s
  obtain ⟨fs, hfs⟩ := u_sg
  have HFS := Lib.hid hfs
  clear hfs
  show Calls Try.prog 79 #[.agg #[.slice ao l.length cap, .int .i64 st, .int .i64 cu, .int .i64 fa], .int .i64 step] w _
  have HE : RowKit.Hid (∀ v c : Int, step = v ∨ True → True) := Lib.hid (fun _ _ _ => trivial)
  clear HE
  go_enter Try.func79, Try.ntmps79
  go_upto_region 1 with fail
  have hS := Blk.made w #[.slice ao l.length cap, .int .i64 st, .int .i64 cu, .int .i64 fa] 63
  have hA := (Only.refl NoBlock w).alloc (Obj.cells #[.slice ao l.length cap, .int .i64 st, .int .i64 cu, .int .i64 fa] 63)
  have hz : (w.alloc (Obj.cells #[.slice ao l.length cap, .int .i64 st, .int .i64 cu, .int .i64 fa] 63)).heap.size = w.heap.size + 1 := by simp
  generalize w.alloc (Obj.cells #[.slice ao l.length cap, .int .i64 st, .int .i64 cu, .int .i64 fa] 63) = w1 at hS hA hz ⊢
  rw [← hz]
  have hS0 : w.heap.size ≤ w.heap.size := Nat.le_refl _
  have hG0 : w.heap.size ≤ w1.heap.size := by omega
  have hne : w.heap.size ≠ w1.heap.size := by omega
  have hG := Blk.made w1 #[.slice none 0 0, .int .i64 0, .int .i64 0, .int .i64 0] 63
  have hB := hS.alloc (.cells #[.slice none 0 0, .int .i64 0, .int .i64 0, .int .i64 0] 63)
  have hO := hA.alloc (.cells #[.slice none 0 0, .int .i64 0, .int .i64 0, .int .i64 0] 63)
  generalize w1.alloc (.cells #[.slice none 0 0, .int .i64 0, .int .i64 0, .int .i64 0] 63) = w2 at hG hB hO ⊢
  have HSD := Lib.hid (rfl : w.heap.size = w.heap.size)
  generalize hSe : w.heap.size = S at hB hne hS0 ⊢
  have HSe := Lib.hid hSe
  clear hSe HSD hS hA hz
  generalize w1.heap.size = G at hG hne hG0 ⊢
  have c0 := hB.cell 0
  have c1 := hB.cell 1
  have c2 := hB.cell 2
  have c3 := hB.cell 3
  have f1 := hB.free 1
  have f2 := hB.free 2
  have f3 := hB.free 3
  have g0 := hG.cell 0
  have g1 := hG.cell 1
  have g2 := hG.cell 2
  have g3 := hG.cell 3
  have u0 := hG.free 0
  have u1 := hG.free 1
  have u2 := hG.free 2
  have u3 := hG.free 3
  simp only [List.getElem?_toArray, List.getElem?_cons_succ, List.getElem?_cons_zero] at c0 c1 c2 c3 g0 g1 g2 g3
  by_cases h0 : step < 0
  · have d0 : decide (step < 0) = true := by simp; omega
    have HB : RowKit.Hid (Mc.backTo ⟨l, st, cu, fa⟩ step = ⟨l, 4, 0, 0⟩) := Lib.hid (by unfold Mc.backTo; rw [if_pos h0])
    clear h0
    go_wp2_with fail
    have hG1 := ((hG.setCell_other (p := ⟨S, 1, none⟩) (fun e => hne e.symm) (.int .i64 4)).setCell_other (p := ⟨S, 2, none⟩) (fun e => hne e.symm) (.int .i64 0)).setCell_other (p := ⟨S, 3, none⟩) (fun e => hne e.symm) (.int .i64 0)
    have hO1 := ((hO.setCell (p := ⟨S, 1, none⟩) (fun h => by have h' : S < w.heap.size := h; have := HSe.out; omega) (.int .i64 4)).setCell (p := ⟨S, 2, none⟩) (fun h => by have h' : S < w.heap.size := h; have := HSe.out; omega) (.int .i64 0)).setCell (p := ⟨S, 3, none⟩) (fun h => by have h' : S < w.heap.size := h; have := HSe.out; omega) (.int .i64 0)
    have hV := sets_blk hG1 [.slice ao l.length cap, .int .i64 4, .int .i64 0, .int .i64 0] rfl
    have hW := sets_only (g := G) hO1 (fun h => by omega) [.slice ao l.length cap, .int .i64 4, .int .i64 0, .int .i64 0] 0
    simp only [sets] at hV hW
    refine bodyPost_ret (results_cell_row (P := Try.prog) rfl _ _ G _ _ _ _ rfl hV HFS.out rfl size_sg) rfl ?_
    exact ⟨by rw [HB.out]; rfl, hW⟩
  · have d0 : decide (step < 0) = false := by simp; omega
    have HB : RowKit.Hid (Mc.backTo ⟨l, st, cu, fa⟩ step = ⟨l, 2, step, 0⟩) := Lib.hid (by unfold Mc.backTo; rw [if_neg h0])
    clear h0
    go_wp2_with fail
    have hG1 := ((hG.setCell_other (p := ⟨S, 1, none⟩) (fun e => hne e.symm) (.int .i64 2)).setCell_other (p := ⟨S, 2, none⟩) (fun e => hne e.symm) (.int .i64 step)).setCell_other (p := ⟨S, 3, none⟩) (fun e => hne e.symm) (.int .i64 0)
    have hO1 := ((hO.setCell (p := ⟨S, 1, none⟩) (fun h => by have h' : S < w.heap.size := h; have := HSe.out; omega) (.int .i64 2)).setCell (p := ⟨S, 2, none⟩) (fun h => by have h' : S < w.heap.size := h; have := HSe.out; omega) (.int .i64 step)).setCell (p := ⟨S, 3, none⟩) (fun h => by have h' : S < w.heap.size := h; have := HSe.out; omega) (.int .i64 0)
    have hV := sets_blk hG1 [.slice ao l.length cap, .int .i64 2, .int .i64 step, .int .i64 0] rfl
    have hW := sets_only (g := G) hO1 (fun h => by omega) [.slice ao l.length cap, .int .i64 2, .int .i64 step, .int .i64 0] 0
    simp only [sets] at hV hW
    refine bodyPost_ret (results_cell_row (P := Try.prog) rfl _ _ G _ _ _ _ rfl hV HFS.out rfl size_sg) rfl ?_
    exact ⟨by rw [HB.out]; rfl, hW⟩
end Go.Proofs.Ytogeeeigfhmpmaa

/- saga.Abort, Ended, Wants; machine.told. -/
namespace Go.Proofs.Ytogeeeigfhmpmaa
open Go.RowKit
set_option maxRecDepth 100000

theorem told_at (w : World) (s : Mc.Sg) (ao : Option Addr) (cap : Nat) (h0 : 0 ≤ s.state) (h1 : s.state ≤ 1000) (h2 : 0 ≤ s.cursor) (h3 : s.cursor ≤ 1000) :
    Calls Try.prog 60 #[sgV s ao cap] w fun e w' => e = .returned (repV (Mc.told s)) ∧ Only NoBlock w w' := by
  obtain ⟨l, st, cu, fa⟩ := s
  simp only at h0 h1 h2 h3
  obtain ⟨a, rfl⟩ : ∃ a : Nat, st = a := ⟨st.toNat, by omega⟩
  obtain ⟨c, rfl⟩ : ∃ c : Nat, cu = c := ⟨cu.toNat, by omega⟩
  obtain ⟨fs, hfs⟩ := u_rep
  have HFS := Lib.hid hfs
  clear hfs
  have hA := (Only.refl NoBlock w).alloc (Obj.cells #[.slice ao l.length cap, .int .i64 (a : Int), .int .i64 (c : Int), .int .i64 fa] 63)
  show Calls Try.prog 60 #[.agg #[.slice ao l.length cap, .int .i64 (a : Int), .int .i64 (c : Int), .int .i64 fa]] w _
  go_enter Try.func60, Try.ntmps60
  go_upto_region 1 with fail
  have hS := Blk.made w #[.slice ao l.length cap, .int .i64 (a : Int), .int .i64 (c : Int), .int .i64 fa] 63
  have hz : (w.alloc (Obj.cells #[.slice ao l.length cap, .int .i64 (a : Int), .int .i64 (c : Int), .int .i64 fa] 63)).heap.size = w.heap.size + 1 := by simp
  generalize w.alloc (Obj.cells #[.slice ao l.length cap, .int .i64 (a : Int), .int .i64 (c : Int), .int .i64 fa] 63) = w1 at hS hA hz ⊢
  rw [← hz]
  have hG0 : w.heap.size ≤ w1.heap.size := by omega
  have hG := Blk.made w1 #[.int .i64 0, .int .u64 0, .int .u64 0] 34
  have hB := hS.alloc (.cells #[.int .i64 0, .int .u64 0, .int .u64 0] 34)
  have hO := hA.alloc (.cells #[.int .i64 0, .int .u64 0, .int .u64 0] 34)
  generalize w1.alloc (.cells #[.int .i64 0, .int .u64 0, .int .u64 0] 34) = w2 at hG hB hO ⊢
  generalize w1.heap.size = G at hG hG0 ⊢
  clear hz hS hA
  have c1 := hB.cell 1
  have c2 := hB.cell 2
  have g0 := hG.cell 0
  have g1 := hG.cell 1
  have g2 := hG.cell 2
  have u0 := hG.free 0
  have u1 := hG.free 1
  have u2 := hG.free 2
  simp only [List.getElem?_toArray, List.getElem?_cons_succ, List.getElem?_cons_zero] at c1 c2 g0 g1 g2
  go_wp2_with fail
  have hV := sets_blk hG [.int .i64 0, .int .u64 (a : Int), .int .u64 (c : Int)] rfl
  have hW := sets_only (g := G) hO (fun h => by omega) [.int .i64 0, .int .u64 (a : Int), .int .u64 (c : Int)] 0
  simp only [sets] at hV hW
  refine bodyPost_ret (results_cell_row (P := Try.prog) rfl _ _ G _ _ _ _ rfl hV HFS.out rfl size_rep) rfl ?_
  exact ⟨by simp [repV, Mc.told], hW⟩

set_option maxHeartbeats 1600000 in
theorem abort_at (w : World) (s : Mc.Sg) (ao : Option Addr) (cap : Nat) (hsm : Smalls s.steps) (hrow : RowIn stpK 38 w ao s.steps) :
    Calls Try.prog 63 #[sgV s ao cap] w fun e w' => e = .returned (.tuple #[sgV (Mc.abort s).1 ao cap, .bool (Mc.abort s).2]) ∧ Only NoBlock w w' := by
  have HS := Lib.hid (show Mc.abort s = if Mc.sound s = true ∧ s.state = 1 then (Mc.backTo s s.cursor, true) else (s, false) from rfl)
  obtain ⟨l, st, cu, fa⟩ := s
  simp only at hsm hrow
  obtain ⟨fs, hfs⟩ := u_sg
  have HFS := Lib.hid hfs
  clear hfs
  show Calls Try.prog 63 #[.agg #[.slice ao l.length cap, .int .i64 st, .int .i64 cu, .int .i64 fa]] w _
  go_enter Try.func63, Try.ntmps63
  go_upto_region 1 with fail
  have hS := Blk.made w #[.slice ao l.length cap, .int .i64 st, .int .i64 cu, .int .i64 fa] 63
  have hA := (Only.refl NoBlock w).alloc (Obj.cells #[.slice ao l.length cap, .int .i64 st, .int .i64 cu, .int .i64 fa] 63)
  have hz : (w.alloc (Obj.cells #[.slice ao l.length cap, .int .i64 st, .int .i64 cu, .int .i64 fa] 63)).heap.size = w.heap.size + 1 := by simp
  generalize w.alloc (Obj.cells #[.slice ao l.length cap, .int .i64 st, .int .i64 cu, .int .i64 fa] 63) = w1 at hS hA hz ⊢
  rw [← hz]
  have hG0 : w.heap.size ≤ w1.heap.size := by omega
  have hne : w.heap.size ≠ w1.heap.size := by omega
  have hG := Blk.made w1 #[.slice none 0 0, .int .i64 0, .int .i64 0, .int .i64 0] 63
  have hB := hS.alloc (.cells #[.slice none 0 0, .int .i64 0, .int .i64 0, .int .i64 0] 63)
  have hO := hA.alloc (.cells #[.slice none 0 0, .int .i64 0, .int .i64 0, .int .i64 0] 63)
  generalize w1.alloc (.cells #[.slice none 0 0, .int .i64 0, .int .i64 0, .int .i64 0] 63) = w2 at hG hB hO ⊢
  generalize hSe : w.heap.size = S at hB hne ⊢
  have HSe := Lib.hid hSe
  generalize w1.heap.size = G at hG hne hG0 ⊢
  have hr2 := hrow.keepsN hO
  clear hSe hS hA hz hrow
  have c0 := hB.cell 0
  have c1 := hB.cell 1
  have c2 := hB.cell 2
  have c3 := hB.cell 3
  simp only [List.getElem?_toArray, List.getElem?_cons_succ, List.getElem?_cons_zero] at c0 c1 c2 c3
  go_wp2_with fail
  refine (sound_at w2 ⟨l, st, cu, fa⟩ ao cap hsm hr2).mono ?_
  rintro e w3 ⟨rfl, hO3⟩
  have hB3 := hB.keeps hO3 (fun h => h)
  have hG3 := hG.keeps hO3 (fun h => h)
  have hOw := hO.trans hO3
  clear c0 c1 c2 c3 hB hG hO hO3 hr2
  have c0 := hB3.cell 0
  have c1 := hB3.cell 1
  have c2 := hB3.cell 2
  have c3 := hB3.cell 3
  have g0 := hG3.cell 0
  have g1 := hG3.cell 1
  have g2 := hG3.cell 2
  have g3 := hG3.cell 3
  have u0 := hG3.free 0
  have u1 := hG3.free 1
  have u2 := hG3.free 2
  have u3 := hG3.free 3
  simp only [List.getElem?_toArray, List.getElem?_cons_succ, List.getElem?_cons_zero] at c0 c1 c2 c3 g0 g1 g2 g3
  cases hs : Mc.sound ⟨l, st, cu, fa⟩ with
  | false =>
    have HR : RowKit.Hid (Mc.abort ⟨l, st, cu, fa⟩ = (⟨l, st, cu, fa⟩, false)) := Lib.hid (by rw [HS.out, if_neg (by simp [hs])])
    clear hs
    go_wp2_with fail
    have hV := sets_blk hG3 [.slice ao l.length cap, .int .i64 st, .int .i64 cu, .int .i64 fa] rfl
    have hW := sets_only (g := G) hOw (fun h => by omega) [.slice ao l.length cap, .int .i64 st, .int .i64 cu, .int .i64 fa] 0
    simp only [sets] at hV hW
    refine bodyPost_ret (results_cell_tmp (P := Try.prog) rfl _ _ G _ _ _ _ rfl hV HFS.out rfl size_sg) rfl ?_
    exact ⟨by rw [HR.out]; rfl, hW⟩
  | true =>
    by_cases h1 : st = 1
    · have HR : RowKit.Hid (Mc.abort ⟨l, st, cu, fa⟩ = (Mc.backTo ⟨l, st, cu, fa⟩ cu, true)) := Lib.hid (by rw [HS.out, if_pos ⟨hs, h1⟩])
      have d1 : (st == 1) = true := by simp; omega
      have d2 : (st != 1) = false := by simp; omega
      clear h1 hs
      go_wp2_with fail
      refine (back_at w3 ⟨l, st, cu, fa⟩ ao cap cu).mono ?_
      rintro e w4 ⟨rfl, hO4⟩
      have hG4 := hG3.keeps hO4 (fun h => h)
      have hOv := hOw.trans hO4
      clear c0 c1 c2 c3 g0 g1 g2 g3 u0 u1 u2 u3
      obtain ⟨l2, st2, cu2, fa2, hb⟩ : ∃ l2 st2 cu2 fa2, Mc.backTo ⟨l, st, cu, fa⟩ cu = ⟨l2, st2, cu2, fa2⟩ := ⟨_, _, _, _, rfl⟩
      rw [hb]
      have HR2 : RowKit.Hid (Mc.abort ⟨l, st, cu, fa⟩ = (⟨l2, st2, cu2, fa2⟩, true)) := Lib.hid (by rw [HR.out, hb])
      clear hb
      have g0 := hG4.cell 0
      have g1 := hG4.cell 1
      have g2 := hG4.cell 2
      have g3 := hG4.cell 3
      have u0 := hG4.free 0
      have u1 := hG4.free 1
      have u2 := hG4.free 2
      have u3 := hG4.free 3
      simp only [List.getElem?_toArray, List.getElem?_cons_succ, List.getElem?_cons_zero] at g0 g1 g2 g3
      unfold sgV
      go_wp2_with fail
      have hV := sets_blk hG4 [.slice ao l2.length cap, .int .i64 st2, .int .i64 cu2, .int .i64 fa2] rfl
      have hW := sets_only (g := G) hOv (fun h => by omega) [.slice ao l2.length cap, .int .i64 st2, .int .i64 cu2, .int .i64 fa2] 0
      simp only [sets] at hV hW
      refine bodyPost_ret (results_cell_tmp (P := Try.prog) rfl _ _ G _ _ _ _ rfl hV HFS.out rfl size_sg) rfl ?_
      exact ⟨by rw [HR2.out]; rfl, hW⟩
    · have HR : RowKit.Hid (Mc.abort ⟨l, st, cu, fa⟩ = (⟨l, st, cu, fa⟩, false)) := Lib.hid (by rw [HS.out, if_neg (fun h => h1 h.2)])
      have d1 : (st == 1) = false := by simp; omega
      have d2 : (st != 1) = true := by simp; omega
      clear h1 hs
      go_wp2_with fail
      have hV := sets_blk hG3 [.slice ao l.length cap, .int .i64 st, .int .i64 cu, .int .i64 fa] rfl
      have hW := sets_only (g := G) hOw (fun h => by omega) [.slice ao l.length cap, .int .i64 st, .int .i64 cu, .int .i64 fa] 0
      simp only [sets] at hV hW
      refine bodyPost_ret (results_cell_tmp (P := Try.prog) rfl _ _ G _ _ _ _ rfl hV HFS.out rfl size_sg) rfl ?_
      exact ⟨by rw [HR.out]; rfl, hW⟩

def endedB (st : Int) : Bool := decide (3 ≤ st) && decide (st ≤ 5)
theorem ended_at (w : World) (s : Mc.Sg) (ao : Option Addr) (cap : Nat) :
    Calls Try.prog 100 #[sgV s ao cap] w fun e w' => e = .returned (.bool (endedB s.state)) ∧ Only NoBlock w w' := by
  obtain ⟨l, st, cu, fa⟩ := s
  have hA := (Only.refl NoBlock w).alloc (Obj.cells #[.slice ao l.length cap, .int .i64 st, .int .i64 cu, .int .i64 fa] 63)
  show Calls Try.prog 100 #[.agg #[.slice ao l.length cap, .int .i64 st, .int .i64 cu, .int .i64 fa]] w _
  go_enter Try.func100, Try.ntmps100
  by_cases h3 : 3 ≤ st
  · have d3 : decide (3 ≤ st) = true := by simp; omega
    by_cases h5 : st ≤ 5
    · have d5 : decide (st ≤ 5) = true := by simp; omega
      have HB : RowKit.Hid (endedB st = true) := Lib.hid (by unfold endedB; rw [d3, d5]; rfl)
      clear h3 h5
      go_wp2_with fail
      go_ret
      exact ⟨by rw [HB.out]; rfl, hA⟩
    · have d5 : decide (st ≤ 5) = false := by simp; omega
      have HB : RowKit.Hid (endedB st = false) := Lib.hid (by unfold endedB; rw [d3, d5]; rfl)
      clear h3 h5
      go_wp2_with fail
      go_ret
      exact ⟨by rw [HB.out]; rfl, hA⟩
  · have d3 : decide (3 ≤ st) = false := by simp; omega
    have HB : RowKit.Hid (endedB st = false) := Lib.hid (by unfold endedB; rw [d3]; rfl)
    clear h3
    go_wp2_with fail
    go_ret
    exact ⟨by rw [HB.out]; rfl, hA⟩

/-- what a saga waits for -/
def wantsE (s : Mc.Sg) : Value := if Mc.sound s = true ∧ endedB s.state = false then .tuple #[.int .i64 s.cursor, .bool (decide (s.state = 2)), .bool true] else .tuple #[.int .i64 0, .bool false, .bool false]
set_option maxHeartbeats 1600000 in
theorem wants_at (w : World) (s : Mc.Sg) (ao : Option Addr) (cap : Nat) (hsm : Smalls s.steps) (hrow : RowIn stpK 38 w ao s.steps) :
    Calls Try.prog 78 #[sgV s ao cap] w fun e w' => e = .returned (wantsE s) ∧ Only NoBlock w w' := by
  have HS := Lib.hid (show wantsE s = if Mc.sound s = true ∧ endedB s.state = false then .tuple #[.int .i64 s.cursor, .bool (decide (s.state = 2)), .bool true] else .tuple #[.int .i64 0, .bool false, .bool false] from rfl)
  obtain ⟨l, st, cu, fa⟩ := s
  simp only at hsm hrow
  have hA := (Only.refl NoBlock w).alloc (Obj.cells #[.slice ao l.length cap, .int .i64 st, .int .i64 cu, .int .i64 fa] 63)
  have hB := Blk.made w #[.slice ao l.length cap, .int .i64 st, .int .i64 cu, .int .i64 fa] 63
  have hrA := hrow.keepsN hA
  show Calls Try.prog 78 #[.agg #[.slice ao l.length cap, .int .i64 st, .int .i64 cu, .int .i64 fa]] w _
  go_enter Try.func78, Try.ntmps78
  go_wp2_with fail
  refine (sound_at _ ⟨l, st, cu, fa⟩ ao cap hsm hrA).mono ?_
  rintro e w2 ⟨rfl, hO2⟩
  have hB2 := hB.keeps hO2 (fun h => h)
  have hO := hA.trans hO2
  generalize w.heap.size = S at hB2 ⊢
  clear hrow hrA hA hB hO2
  have c0 := hB2.cell 0
  have c1 := hB2.cell 1
  have c2 := hB2.cell 2
  have c3 := hB2.cell 3
  simp only [List.getElem?_toArray, List.getElem?_cons_succ, List.getElem?_cons_zero] at c0 c1 c2 c3
  cases hs : Mc.sound ⟨l, st, cu, fa⟩ with
  | false =>
    have HR : RowKit.Hid (wantsE ⟨l, st, cu, fa⟩ = .tuple #[.int .i64 0, .bool false, .bool false]) := Lib.hid (by rw [HS.out, if_neg (by simp [hs])])
    clear hs
    go_wp2_with fail
    go_ret3
    exact ⟨by rw [HR.out]; rfl, hO⟩
  | true =>
    have HSO := Lib.hid hs
    clear hs
    go_wp2_with fail
    refine (ended_at w2 ⟨l, st, cu, fa⟩ ao cap).mono ?_
    rintro e w3 ⟨rfl, hO3⟩
    have hB3 := hB2.keeps hO3 (fun h => h)
    have hO3' := hO.trans hO3
    clear c0 c1 c2 c3 hB2 hO hO3
    have c1 := hB3.cell 1
    have c2 := hB3.cell 2
    simp only [List.getElem?_toArray, List.getElem?_cons_succ, List.getElem?_cons_zero] at c1 c2
    cases he : endedB st with
    | true =>
      have HR : RowKit.Hid (wantsE ⟨l, st, cu, fa⟩ = .tuple #[.int .i64 0, .bool false, .bool false]) := Lib.hid (by rw [HS.out, if_neg (by simp [he])])
      clear he
      go_wp2_with fail
      go_ret3
      exact ⟨by rw [HR.out]; rfl, hO3'⟩
    | false =>
      have HR : RowKit.Hid (wantsE ⟨l, st, cu, fa⟩ = .tuple #[.int .i64 cu, .bool (decide (st = 2)), .bool true]) := Lib.hid (by rw [HS.out, if_pos ⟨HSO.out, he⟩])
      clear he
      have d2 : (st == 2) = decide (st = 2) := by rw [Bool.eq_iff_iff]; simp
      go_wp2_with fail
      go_quiet (fail)
      go_wp2_with fail
      go_ret3
      exact ⟨by rw [HR.out]; first | rfl | (rw [← d2]; rfl) | (rw [d2]), hO3'.drewN _⟩
end Go.Proofs.Ytogeeeigfhmpmaa

/- saga.Outcome: of a step's doing, or of its taking back. -/
namespace Go.Proofs.Ytogeeeigfhmpmaa
open Go.RowKit
set_option maxRecDepth 100000

theorem ended_state {s : Mc.Sg} (h : Mc.sound s = true) : endedB s.state = false ↔ s.state ≤ 2 := by
  obtain ⟨_, h1, h5, _⟩ := Mc.sound_up h
  unfold endedB
  constructor
  · intro he
    by_cases h3 : 3 ≤ s.state
    · simp [h3, h5] at he
    · omega
  · intro he
    have : ¬ 3 ≤ s.state := by omega
    simp [this]
theorem budget_pos1 {l : List Pk.Stp} {st cu fa : Int} (h : Mc.sound ⟨l, st, cu, fa⟩ = true) : 0 ≤ fa ∧ fa ≤ 9 ∧ 0 ≤ cu ∧ cu ≤ 64 ∧ (st ≤ 2 → cu < l.length) := by
  obtain ⟨h0, h1, hp⟩ := Mc.sound_parts h
  obtain ⟨_, k1, k2, k3, k4, k5, k6⟩ := Mc.sound_up h
  simp only at *
  refine ⟨k5, k6, k3, k4, fun h2 => ?_⟩
  rcases hp with hp | hp | hp | hp | hp <;> omega
set_option maxHeartbeats 4000000 in
theorem outcome_at (w : World) (s : Mc.Sg) (ao : Option Addr) (cap : Nat) (hsm : Smalls s.steps) (hrow : RowIn stpK 38 w ao s.steps) (step : Int) (taken : Bool) (tr : Int) (ok : Bool) (hst : -1000 ≤ step ∧ step ≤ 1000) :
    Calls Try.prog 59 #[sgV s ao cap, .int .i64 step, .bool taken, .int .i64 tr, .bool ok] w fun e w' => e = .returned (.tuple #[sgV (Mc.outcome s step taken tr ok).1 ao cap, .bool (Mc.outcome s step taken tr ok).2]) ∧ Only NoBlock w w' := by
  have HO := Lib.hid (show Mc.outcome s step taken tr ok = _ from rfl)
  have HS := Lib.hid (show wantsE s = if Mc.sound s = true ∧ endedB s.state = false then .tuple #[.int .i64 s.cursor, .bool (decide (s.state = 2)), .bool true] else .tuple #[.int .i64 0, .bool false, .bool false] from rfl)
  obtain ⟨l, st, cu, fa⟩ := s
  simp only at hsm hrow
  have hn64 := hsm.1
  obtain ⟨fs, hfs⟩ := u_sg
  have HFS := Lib.hid hfs
  clear hfs HO
  show Calls Try.prog 59 #[.agg #[.slice ao l.length cap, .int .i64 st, .int .i64 cu, .int .i64 fa], .int .i64 step, .bool taken, .int .i64 tr, .bool ok] w _
  go_enter Try.func59, Try.ntmps59
  go_upto_region 1 with fail
  have hS := Blk.made w #[.slice ao l.length cap, .int .i64 st, .int .i64 cu, .int .i64 fa] 63
  have hA := (Only.refl NoBlock w).alloc (Obj.cells #[.slice ao l.length cap, .int .i64 st, .int .i64 cu, .int .i64 fa] 63)
  have hz : (w.alloc (Obj.cells #[.slice ao l.length cap, .int .i64 st, .int .i64 cu, .int .i64 fa] 63)).heap.size = w.heap.size + 1 := by simp
  generalize w.alloc (Obj.cells #[.slice ao l.length cap, .int .i64 st, .int .i64 cu, .int .i64 fa] 63) = w1 at hS hA hz ⊢
  rw [← hz]
  have hG0 : w.heap.size ≤ w1.heap.size := by omega
  have hne : w.heap.size ≠ w1.heap.size := by omega
  have hG := Blk.made w1 #[.slice none 0 0, .int .i64 0, .int .i64 0, .int .i64 0] 63
  have hB := hS.alloc (.cells #[.slice none 0 0, .int .i64 0, .int .i64 0, .int .i64 0] 63)
  have hO := hA.alloc (.cells #[.slice none 0 0, .int .i64 0, .int .i64 0, .int .i64 0] 63)
  generalize w1.alloc (.cells #[.slice none 0 0, .int .i64 0, .int .i64 0, .int .i64 0] 63) = w2 at hG hB hO ⊢
  have hS0 : w.heap.size ≤ w.heap.size := Nat.le_refl _
  generalize hSe : w.heap.size = S at hB hne ⊢
  have hS0 : w.heap.size ≤ S := by omega
  generalize w1.heap.size = G at hG hne hG0 ⊢
  have hr2 := hrow.keepsN hO
  clear hSe hS hA hz hrow
  have c0 := hB.cell 0
  have c1 := hB.cell 1
  have c2 := hB.cell 2
  have c3 := hB.cell 3
  simp only [List.getElem?_toArray, List.getElem?_cons_succ, List.getElem?_cons_zero] at c0 c1 c2 c3
  go_wp2_with fail
  refine (wants_at w2 ⟨l, st, cu, fa⟩ ao cap hsm hr2).mono ?_
  rintro e w3 ⟨rfl, hO3⟩
  have hB3 := hB.keeps hO3 (fun h => h)
  have hG3 := hG.keeps hO3 (fun h => h)
  have hOw := hO.trans hO3
  have hr3 := hr2.keepsN hO3
  clear c0 c1 c2 c3 hB hG hO hO3 hr2
  have c0 := hB3.cell 0
  have c1 := hB3.cell 1
  have c2 := hB3.cell 2
  have c3 := hB3.cell 3
  have f1 := hB3.free 1
  have f2 := hB3.free 2
  have f3 := hB3.free 3
  have g0 := hG3.cell 0
  have g1 := hG3.cell 1
  have g2 := hG3.cell 2
  have g3 := hG3.cell 3
  have u0 := hG3.free 0
  have u1 := hG3.free 1
  have u2 := hG3.free 2
  have u3 := hG3.free 3
  simp only [List.getElem?_toArray, List.getElem?_cons_succ, List.getElem?_cons_zero] at c0 c1 c2 c3 g0 g1 g2 g3
  by_cases hw : Mc.sound ⟨l, st, cu, fa⟩ = true ∧ endedB st = false
  · have hwe : wantsE ⟨l, st, cu, fa⟩ = .tuple #[.int .i64 cu, .bool (decide (st = 2)), .bool true] := by rw [HS.out, if_pos hw]
    rw [hwe]
    clear hwe
    obtain ⟨hso, hen⟩ := hw
    have hs2 : st ≤ 2 := (ended_state hso).1 hen
    obtain ⟨b0, b9, k0, k64, klt⟩ := budget_pos1 hso
    have klt := klt hs2
    have HSO := Lib.hid hso
    have hs1 := (Mc.sound_up hso).2.1
    simp only at hs1
    obtain ⟨_, _, hpp⟩ := Mc.sound_parts hso
    have hst1 : st = 1 ∨ st = 2 := by rcases hpp with hp | hp | hp | hp | hp <;> simp only at hp <;> omega
    clear hso hen hpp hs1
    by_cases hc : cu = step
    · subst hc
      have e1 : (cu != cu) = false := by simp
      by_cases ht : taken = decide (st = 2)
      · by_cases ho : ok = true ∨ tr = fa
        · have HC : RowKit.Hid (Mc.sound ⟨l, st, cu, fa⟩ = true ∧ st ≤ 2 ∧ cu = cu ∧ taken = decide (st = 2) ∧ (ok = true ∨ tr = fa)) := Lib.hid ⟨HSO.out, hs2, rfl, ht, ho⟩
          rcases hst1 with rfl | rfl
          · obtain rfl : taken = false := by simpa using ht
            cases ok with
            | true =>
              have hw1 : IntKind.i64.wrap (cu + 1) = cu + 1 := IntWalk.i64_in _ (by omega)
              clear hw1
              by_cases hl : cu + 1 = l.length
              · have dl : (cu + 1 == (l.length : Int)) = true := by simp; omega
                have HR : RowKit.Hid (Mc.outcome ⟨l, 1, cu, fa⟩ cu false tr true = (⟨l, 3, cu + 1, fa⟩, true)) := Lib.hid (by have hc := HC.out; unfold Mc.outcome; rw [if_pos hc, if_pos ⟨rfl, rfl⟩]; simp only; rw [if_pos hl])
                clear hl ht ho hs2 hr3
                go_wp2_with fail
                have hG4 := (hG3.setCell_other (p := ⟨S, 2, none⟩) (fun e => hne e.symm) (.int .i64 (cu + 1))).setCell_other (p := ⟨S, 1, none⟩) (fun e => hne e.symm) (.int .i64 3)
                have hO4 := (hOw.setCell (p := ⟨S, 2, none⟩) (fun h => by have h' : S < w.heap.size := h; omega) (.int .i64 (cu + 1))).setCell (p := ⟨S, 1, none⟩) (fun h => by have h' : S < w.heap.size := h; omega) (.int .i64 3)
                have hV := sets_blk hG4 [.slice ao l.length cap, .int .i64 3, .int .i64 (cu + 1), .int .i64 fa] rfl
                have hW := sets_only (g := G) hO4 (fun h => by omega) [.slice ao l.length cap, .int .i64 3, .int .i64 (cu + 1), .int .i64 fa] 0
                simp only [sets] at hV hW
                refine bodyPost_ret (results_cell_tmp (P := Try.prog) rfl _ _ G _ _ _ _ rfl hV HFS.out rfl size_sg) rfl ?_
                exact ⟨by rw [HR.out]; rfl, hW⟩
              · have dl : (cu + 1 == (l.length : Int)) = false := by simp; omega
                have HR : RowKit.Hid (Mc.outcome ⟨l, 1, cu, fa⟩ cu false tr true = (⟨l, 1, cu + 1, fa⟩, true)) := Lib.hid (by have hc := HC.out; unfold Mc.outcome; rw [if_pos hc, if_pos ⟨rfl, rfl⟩]; simp only; rw [if_neg hl])
                clear hl ht ho hs2 hr3
                go_wp2_with fail
                have hG4 := hG3.setCell_other (p := ⟨S, 2, none⟩) (fun e => hne e.symm) (.int .i64 (cu + 1))
                have hO4 := hOw.setCell (p := ⟨S, 2, none⟩) (fun h => by have h' : S < w.heap.size := h; omega) (.int .i64 (cu + 1))
                have hV := sets_blk hG4 [.slice ao l.length cap, .int .i64 1, .int .i64 (cu + 1), .int .i64 fa] rfl
                have hW := sets_only (g := G) hO4 (fun h => by omega) [.slice ao l.length cap, .int .i64 1, .int .i64 (cu + 1), .int .i64 fa] 0
                simp only [sets] at hV hW
                refine bodyPost_ret (results_cell_tmp (P := Try.prog) rfl _ _ G _ _ _ _ rfl hV HFS.out rfl size_sg) rfl ?_
                exact ⟨by rw [HR.out]; rfl, hW⟩
            | false =>
              have HR : RowKit.Hid (Mc.outcome ⟨l, 1, cu, fa⟩ cu false tr false = (Mc.backTo ⟨l, 1, cu, fa⟩ (cu - 1), true)) := Lib.hid (by have hc := HC.out; unfold Mc.outcome; rw [if_pos hc, if_neg (by simp), if_pos (by simp)])
              obtain rfl : tr = fa := by simpa using ho
              clear ht ho hs2 hr3
              go_wp2_with fail
              refine (back_at w3 ⟨l, 1, cu, tr⟩ ao cap (cu - 1)).mono ?_
              rintro e w4 ⟨rfl, hO4⟩
              have hG4 := hG3.keeps hO4 (fun h => h)
              have hB4 := hB3.keeps hO4 (fun h => h)
              have hOv := hOw.trans hO4
              clear c0 c1 c2 c3 g0 g1 g2 g3 u0 u1 u2 u3 f1 f2 f3
              obtain ⟨l2, st2, cu2, fa2, hb⟩ : ∃ l2 st2 cu2 fa2, Mc.backTo ⟨l, 1, cu, tr⟩ (cu - 1) = ⟨l2, st2, cu2, fa2⟩ := ⟨_, _, _, _, rfl⟩
              rw [hb]
              have HR2 := Lib.hid (HR.out.trans (by rw [hb]))
              clear hb HR
              have HR := HR2
              clear HR2
              have c0 := hB4.cell 0
              have f0 := hB4.free 0
              have c1 := hB4.cell 1
              have f1 := hB4.free 1
              have c2 := hB4.cell 2
              have f2 := hB4.free 2
              have c3 := hB4.cell 3
              have f3 := hB4.free 3
              simp only [List.getElem?_toArray, List.getElem?_cons_succ, List.getElem?_cons_zero] at c0 c1 c2 c3
              unfold sgV
              go_upto_region 14 with fail
              have hB5 := sets_blk hB4 [.slice ao l2.length cap, .int .i64 st2, .int .i64 cu2, .int .i64 fa2] rfl
              have hO5 := sets_only (g := S) hOv (fun h => by omega) [.slice ao l2.length cap, .int .i64 st2, .int .i64 cu2, .int .i64 fa2] 0
              have hG5 := ((((hG4.setCell_other (p := ⟨S, 0, none⟩) (fun e => hne e.symm) (.slice ao l2.length cap)).setCell_other (p := ⟨S, 1, none⟩) (fun e => hne e.symm) (.int .i64 st2)).setCell_other (p := ⟨S, 2, none⟩) (fun e => hne e.symm) (.int .i64 cu2)).setCell_other (p := ⟨S, 3, none⟩) (fun e => hne e.symm) (.int .i64 fa2))
              simp only [sets] at hB5 hO5
              generalize (((w4.setCell ⟨S, 0, none⟩ (.slice ao l2.length cap)).setCell ⟨S, 1, none⟩ (.int .i64 st2)).setCell ⟨S, 2, none⟩ (.int .i64 cu2)).setCell ⟨S, 3, none⟩ (.int .i64 fa2) = w5 at hB5 hO5 hG5 ⊢
              clear c0 c1 c2 c3 f0 f1 f2 f3 hB4 hG4 hOv
              have c0 := hB5.cell 0
              have g0 := hG5.cell 0
              have u0 := hG5.free 0
              have c1 := hB5.cell 1
              have g1 := hG5.cell 1
              have u1 := hG5.free 1
              have c2 := hB5.cell 2
              have g2 := hG5.cell 2
              have u2 := hG5.free 2
              have c3 := hB5.cell 3
              have g3 := hG5.cell 3
              have u3 := hG5.free 3
              simp only [List.getElem?_toArray, List.getElem?_cons_succ, List.getElem?_cons_zero] at c0 c1 c2 c3 g0 g1 g2 g3
              go_wp2_with fail
              have hV := sets_blk hG5 [.slice ao l2.length cap, .int .i64 st2, .int .i64 cu2, .int .i64 fa2] rfl
              have hW := sets_only (g := G) hO5 (fun h => by omega) [.slice ao l2.length cap, .int .i64 st2, .int .i64 cu2, .int .i64 fa2] 0
              simp only [sets] at hV hW
              refine bodyPost_ret (results_cell_tmp (P := Try.prog) rfl _ _ G _ _ _ _ rfl hV HFS.out rfl size_sg) rfl ?_
              exact ⟨by rw [HR.out]; rfl, hW⟩
          · obtain rfl : taken = true := by simpa using ht
            cases ok with
            | true =>
              have HR : RowKit.Hid (Mc.outcome ⟨l, 2, cu, fa⟩ cu true tr true = (Mc.backTo ⟨l, 2, cu, fa⟩ (cu - 1), true)) := Lib.hid (by have hc := HC.out; unfold Mc.outcome; rw [if_pos hc, if_neg (by simp), if_pos (by simp)])
              clear ht ho hs2 hr3
              go_wp2_with fail
              refine (back_at w3 ⟨l, 2, cu, fa⟩ ao cap (cu - 1)).mono ?_
              rintro e w4 ⟨rfl, hO4⟩
              have hG4 := hG3.keeps hO4 (fun h => h)
              have hB4 := hB3.keeps hO4 (fun h => h)
              have hOv := hOw.trans hO4
              clear c0 c1 c2 c3 g0 g1 g2 g3 u0 u1 u2 u3 f1 f2 f3
              obtain ⟨l2, st2, cu2, fa2, hb⟩ : ∃ l2 st2 cu2 fa2, Mc.backTo ⟨l, 2, cu, fa⟩ (cu - 1) = ⟨l2, st2, cu2, fa2⟩ := ⟨_, _, _, _, rfl⟩
              rw [hb]
              have HR2 := Lib.hid (HR.out.trans (by rw [hb]))
              clear hb HR
              have HR := HR2
              clear HR2
              have c0 := hB4.cell 0
              have f0 := hB4.free 0
              have c1 := hB4.cell 1
              have f1 := hB4.free 1
              have c2 := hB4.cell 2
              have f2 := hB4.free 2
              have c3 := hB4.cell 3
              have f3 := hB4.free 3
              simp only [List.getElem?_toArray, List.getElem?_cons_succ, List.getElem?_cons_zero] at c0 c1 c2 c3
              unfold sgV
              go_upto_region 14 with fail
              have hB5 := sets_blk hB4 [.slice ao l2.length cap, .int .i64 st2, .int .i64 cu2, .int .i64 fa2] rfl
              have hO5 := sets_only (g := S) hOv (fun h => by omega) [.slice ao l2.length cap, .int .i64 st2, .int .i64 cu2, .int .i64 fa2] 0
              have hG5 := ((((hG4.setCell_other (p := ⟨S, 0, none⟩) (fun e => hne e.symm) (.slice ao l2.length cap)).setCell_other (p := ⟨S, 1, none⟩) (fun e => hne e.symm) (.int .i64 st2)).setCell_other (p := ⟨S, 2, none⟩) (fun e => hne e.symm) (.int .i64 cu2)).setCell_other (p := ⟨S, 3, none⟩) (fun e => hne e.symm) (.int .i64 fa2))
              simp only [sets] at hB5 hO5
              generalize (((w4.setCell ⟨S, 0, none⟩ (.slice ao l2.length cap)).setCell ⟨S, 1, none⟩ (.int .i64 st2)).setCell ⟨S, 2, none⟩ (.int .i64 cu2)).setCell ⟨S, 3, none⟩ (.int .i64 fa2) = w5 at hB5 hO5 hG5 ⊢
              clear c0 c1 c2 c3 f0 f1 f2 f3 hB4 hG4 hOv
              have c0 := hB5.cell 0
              have g0 := hG5.cell 0
              have u0 := hG5.free 0
              have c1 := hB5.cell 1
              have g1 := hG5.cell 1
              have u1 := hG5.free 1
              have c2 := hB5.cell 2
              have g2 := hG5.cell 2
              have u2 := hG5.free 2
              have c3 := hB5.cell 3
              have g3 := hG5.cell 3
              have u3 := hG5.free 3
              simp only [List.getElem?_toArray, List.getElem?_cons_succ, List.getElem?_cons_zero] at c0 c1 c2 c3 g0 g1 g2 g3
              go_wp2_with fail
              have hV := sets_blk hG5 [.slice ao l2.length cap, .int .i64 st2, .int .i64 cu2, .int .i64 fa2] rfl
              have hW := sets_only (g := G) hO5 (fun h => by omega) [.slice ao l2.length cap, .int .i64 st2, .int .i64 cu2, .int .i64 fa2] 0
              simp only [sets] at hV hW
              refine bodyPost_ret (results_cell_tmp (P := Try.prog) rfl _ _ G _ _ _ _ rfl hV HFS.out rfl size_sg) rfl ?_
              exact ⟨by rw [HR.out]; rfl, hW⟩
            | false =>
              obtain rfl : tr = fa := by simpa using ho
              obtain ⟨k, rfl⟩ : ∃ k : Nat, cu = k := ⟨cu.toNat, by omega⟩
              obtain ⟨b, off, rfl⟩ := hr3.shape (by omega)
              have hbc := budget_cell hr3 (k := k) (by omega) 2 tr
              have hkl : k < l.length := by omega
              have hbS : b ≠ S := (hr3.typed _ rfl).ne_blk hB3 (by decide)
              generalize hbg : Mc.budgetAt ⟨l, 2, (k : Int), tr⟩ = bg at hbc
              by_cases hl : tr + 1 = bg
              · have dl : (tr + 1 == bg) = true := by simp; omega
                have HR : RowKit.Hid (Mc.outcome ⟨l, 2, (k : Int), tr⟩ k true tr false = (⟨l, 5, k, tr + 1⟩, true)) := Lib.hid (by have hc := HC.out; unfold Mc.outcome; rw [if_pos hc, if_neg (by simp), if_neg (by simp)]; simp only; rw [hbg, if_pos hl])
                clear hl ht ho hs2 hbg hn64
                have hbc3 : (w3.setCell ⟨S, 3, none⟩ (.int .i64 (tr + 1))).cell? ⟨b, off + k * 3 + 2, none⟩ = some (.int .i64 bg) := (World.cell?_of_block (a := ⟨b, off + k * 3 + 2, none⟩) (Below.heap_setCell w3 ⟨S, 3, none⟩ _ b hbS)).trans hbc
                go_upto_region 12 with fail
                have hB4 : Blk (w3.setCell ⟨S, 3, none⟩ (.int .i64 (tr + 1))) S #[.slice (some ⟨b, off, none⟩) l.length cap, .int .i64 2, .int .i64 (k : Int), .int .i64 (tr + 1)] 63 := hB3.setCell 3 (.int .i64 (tr + 1))
                have hG4 := hG3.setCell_other (p := ⟨S, 3, none⟩) (fun e => hne e.symm) (.int .i64 (tr + 1))
                have hO4 := hOw.setCell (p := ⟨S, 3, none⟩) (fun h => by have h' : S < w.heap.size := h; omega) (.int .i64 (tr + 1))
                generalize w3.setCell ⟨S, 3, none⟩ (.int .i64 (tr + 1)) = w4 at hB4 hG4 hO4 hbc3 ⊢
                clear c0 c1 c2 c3 g0 g1 g2 g3 u0 u1 u2 u3 f1 f2 f3 hbc hr3
                have c0 := hB4.cell 0
                have c1 := hB4.cell 1
                have c2 := hB4.cell 2
                have c3 := hB4.cell 3
                simp only [List.getElem?_toArray, List.getElem?_cons_succ, List.getElem?_cons_zero] at c0 c1 c2 c3
                go_quiet (fail)
                rename_i nq
                have hB5 := hB4.drewN nq
                have hG5 := hG4.drewN nq
                have hO5 := hO4.drewN nq
                generalize w4.drewN nq = w5 at hB5 hG5 hO5 ⊢
                clear c0 c1 c2 c3 hbc3
                have c0 := hB5.cell 0
                have g0 := hG5.cell 0
                have u0 := hG5.free 0
                have c1 := hB5.cell 1
                have g1 := hG5.cell 1
                have u1 := hG5.free 1
                have c2 := hB5.cell 2
                have g2 := hG5.cell 2
                have u2 := hG5.free 2
                have c3 := hB5.cell 3
                have g3 := hG5.cell 3
                have u3 := hG5.free 3
                have f1 := hB5.free 1
                simp only [List.getElem?_toArray, List.getElem?_cons_succ, List.getElem?_cons_zero] at c0 c1 c2 c3 g0 g1 g2 g3
                go_wp2_with fail
                have hG6 := hG5.setCell_other (p := ⟨S, 1, none⟩) (fun e => hne e.symm) (.int .i64 5)
                have hO6 := hO5.setCell (p := ⟨S, 1, none⟩) (fun h => by have h' : S < w.heap.size := h; omega) (.int .i64 5)
                have hV := sets_blk hG6 [.slice (some ⟨b, off, none⟩) l.length cap, .int .i64 5, .int .i64 (k : Int), .int .i64 (tr + 1)] rfl
                have hW := sets_only (g := G) hO6 (fun h => by omega) [.slice (some ⟨b, off, none⟩) l.length cap, .int .i64 5, .int .i64 (k : Int), .int .i64 (tr + 1)] 0
                simp only [sets] at hV hW
                refine bodyPost_ret (results_cell_tmp (P := Try.prog) rfl _ _ G _ _ _ _ rfl hV HFS.out rfl size_sg) rfl ?_
                exact ⟨by rw [HR.out]; rfl, hW⟩
              · have dl : (tr + 1 == bg) = false := by simp; omega
                have HR : RowKit.Hid (Mc.outcome ⟨l, 2, (k : Int), tr⟩ k true tr false = (⟨l, 2, k, tr + 1⟩, true)) := Lib.hid (by have hc := HC.out; unfold Mc.outcome; rw [if_pos hc, if_neg (by simp), if_neg (by simp)]; simp only; rw [hbg, if_neg hl])
                clear hl ht ho hs2 hbg hn64
                have hbc3 : (w3.setCell ⟨S, 3, none⟩ (.int .i64 (tr + 1))).cell? ⟨b, off + k * 3 + 2, none⟩ = some (.int .i64 bg) := (World.cell?_of_block (a := ⟨b, off + k * 3 + 2, none⟩) (Below.heap_setCell w3 ⟨S, 3, none⟩ _ b hbS)).trans hbc
                go_upto_region 12 with fail
                have hB4 : Blk (w3.setCell ⟨S, 3, none⟩ (.int .i64 (tr + 1))) S #[.slice (some ⟨b, off, none⟩) l.length cap, .int .i64 2, .int .i64 (k : Int), .int .i64 (tr + 1)] 63 := hB3.setCell 3 (.int .i64 (tr + 1))
                have hG4 := hG3.setCell_other (p := ⟨S, 3, none⟩) (fun e => hne e.symm) (.int .i64 (tr + 1))
                have hO4 := hOw.setCell (p := ⟨S, 3, none⟩) (fun h => by have h' : S < w.heap.size := h; omega) (.int .i64 (tr + 1))
                generalize w3.setCell ⟨S, 3, none⟩ (.int .i64 (tr + 1)) = w4 at hB4 hG4 hO4 hbc3 ⊢
                clear c0 c1 c2 c3 g0 g1 g2 g3 u0 u1 u2 u3 f1 f2 f3 hbc hr3
                have c0 := hB4.cell 0
                have c1 := hB4.cell 1
                have c2 := hB4.cell 2
                have c3 := hB4.cell 3
                simp only [List.getElem?_toArray, List.getElem?_cons_succ, List.getElem?_cons_zero] at c0 c1 c2 c3
                go_quiet (fail)
                rename_i nq
                have hB5 := hB4.drewN nq
                have hG5 := hG4.drewN nq
                have hO5 := hO4.drewN nq
                generalize w4.drewN nq = w5 at hB5 hG5 hO5 ⊢
                clear c0 c1 c2 c3 hbc3
                have c0 := hB5.cell 0
                have g0 := hG5.cell 0
                have u0 := hG5.free 0
                have c1 := hB5.cell 1
                have g1 := hG5.cell 1
                have u1 := hG5.free 1
                have c2 := hB5.cell 2
                have g2 := hG5.cell 2
                have u2 := hG5.free 2
                have c3 := hB5.cell 3
                have g3 := hG5.cell 3
                have u3 := hG5.free 3
                have f1 := hB5.free 1
                simp only [List.getElem?_toArray, List.getElem?_cons_succ, List.getElem?_cons_zero] at c0 c1 c2 c3 g0 g1 g2 g3
                go_wp2_with fail
                have hV := sets_blk hG5 [.slice (some ⟨b, off, none⟩) l.length cap, .int .i64 2, .int .i64 (k : Int), .int .i64 (tr + 1)] rfl
                have hW := sets_only (g := G) hO5 (fun h => by omega) [.slice (some ⟨b, off, none⟩) l.length cap, .int .i64 2, .int .i64 (k : Int), .int .i64 (tr + 1)] 0
                simp only [sets] at hV hW
                refine bodyPost_ret (results_cell_tmp (P := Try.prog) rfl _ _ G _ _ _ _ rfl hV HFS.out rfl size_sg) rfl ?_
                exact ⟨by rw [HR.out]; rfl, hW⟩
        · have hok : ok = false := by cases ok; rfl; exact absurd (.inl rfl) ho
          subst hok
          have htr : ¬ tr = fa := fun e => ho (.inr e)
          have dt : (tr != fa) = true := by simpa using htr
          have dt2 : (tr == fa) = false := by simpa using htr
          rcases hst1 with rfl | rfl
          · obtain rfl : taken = false := by simpa using ht
            have HR : RowKit.Hid (Mc.outcome ⟨l, 1, cu, fa⟩ cu false tr false = (⟨l, 1, cu, fa⟩, false)) := Lib.hid (by unfold Mc.outcome; rw [if_neg (fun h => ho h.2.2.2.2)])
            clear hr3 ho htr hs2 ht
            go_wp2_with fail
            have hV := sets_blk hG3 [.slice ao l.length cap, .int .i64 1, .int .i64 cu, .int .i64 fa] rfl
            have hW := sets_only (g := G) hOw (fun h => by omega) [.slice ao l.length cap, .int .i64 1, .int .i64 cu, .int .i64 fa] 0
            simp only [sets] at hV hW
            refine bodyPost_ret (results_cell_tmp (P := Try.prog) rfl _ _ G _ _ _ _ rfl hV HFS.out rfl size_sg) rfl ?_
            exact ⟨by rw [HR.out]; rfl, hW⟩
          · obtain rfl : taken = true := by simpa using ht
            have HR : RowKit.Hid (Mc.outcome ⟨l, 2, cu, fa⟩ cu true tr false = (⟨l, 2, cu, fa⟩, false)) := Lib.hid (by unfold Mc.outcome; rw [if_neg (fun h => ho h.2.2.2.2)])
            clear hr3 ho htr hs2 ht
            go_wp2_with fail
            have hV := sets_blk hG3 [.slice ao l.length cap, .int .i64 2, .int .i64 cu, .int .i64 fa] rfl
            have hW := sets_only (g := G) hOw (fun h => by omega) [.slice ao l.length cap, .int .i64 2, .int .i64 cu, .int .i64 fa] 0
            simp only [sets] at hV hW
            refine bodyPost_ret (results_cell_tmp (P := Try.prog) rfl _ _ G _ _ _ _ rfl hV HFS.out rfl size_sg) rfl ?_
            exact ⟨by rw [HR.out]; rfl, hW⟩
      · rcases hst1 with rfl | rfl
        · obtain rfl : taken = true := by cases taken <;> simp_all
          have HR : RowKit.Hid (Mc.outcome ⟨l, 1, cu, fa⟩ cu true tr ok = (⟨l, 1, cu, fa⟩, false)) := Lib.hid (by unfold Mc.outcome; rw [if_neg (fun h => ht h.2.2.2.1)])
          clear hr3 ht hs2
          go_wp2_with fail
          have hV := sets_blk hG3 [.slice ao l.length cap, .int .i64 1, .int .i64 cu, .int .i64 fa] rfl
          have hW := sets_only (g := G) hOw (fun h => by omega) [.slice ao l.length cap, .int .i64 1, .int .i64 cu, .int .i64 fa] 0
          simp only [sets] at hV hW
          refine bodyPost_ret (results_cell_tmp (P := Try.prog) rfl _ _ G _ _ _ _ rfl hV HFS.out rfl size_sg) rfl ?_
          exact ⟨by rw [HR.out]; rfl, hW⟩
        · obtain rfl : taken = false := by cases taken <;> simp_all
          have HR : RowKit.Hid (Mc.outcome ⟨l, 2, cu, fa⟩ cu false tr ok = (⟨l, 2, cu, fa⟩, false)) := Lib.hid (by unfold Mc.outcome; rw [if_neg (fun h => ht h.2.2.2.1)])
          clear hr3 ht hs2
          go_wp2_with fail
          have hV := sets_blk hG3 [.slice ao l.length cap, .int .i64 2, .int .i64 cu, .int .i64 fa] rfl
          have hW := sets_only (g := G) hOw (fun h => by omega) [.slice ao l.length cap, .int .i64 2, .int .i64 cu, .int .i64 fa] 0
          simp only [sets] at hV hW
          refine bodyPost_ret (results_cell_tmp (P := Try.prog) rfl _ _ G _ _ _ _ rfl hV HFS.out rfl size_sg) rfl ?_
          exact ⟨by rw [HR.out]; rfl, hW⟩
    · have e1 : (cu != step) = true := by simpa using hc
      have HR : RowKit.Hid (Mc.outcome ⟨l, st, cu, fa⟩ step taken tr ok = (⟨l, st, cu, fa⟩, false)) := Lib.hid (by unfold Mc.outcome; rw [if_neg (fun h => hc h.2.2.1)])
      clear hr3 hc hs2
      generalize decide (st = 2) = tk
      go_wp2_with fail
      have hV := sets_blk hG3 [.slice ao l.length cap, .int .i64 st, .int .i64 cu, .int .i64 fa] rfl
      have hW := sets_only (g := G) hOw (fun h => by omega) [.slice ao l.length cap, .int .i64 st, .int .i64 cu, .int .i64 fa] 0
      simp only [sets] at hV hW
      refine bodyPost_ret (results_cell_tmp (P := Try.prog) rfl _ _ G _ _ _ _ rfl hV HFS.out rfl size_sg) rfl ?_
      exact ⟨by rw [HR.out]; rfl, hW⟩
  · have hwe : wantsE ⟨l, st, cu, fa⟩ = .tuple #[.int .i64 0, .bool false, .bool false] := by rw [HS.out, if_neg hw]
    rw [hwe]
    clear hwe
    have HR : RowKit.Hid (Mc.outcome ⟨l, st, cu, fa⟩ step taken tr ok = (⟨l, st, cu, fa⟩, false)) := Lib.hid (by unfold Mc.outcome; rw [if_neg (fun h => hw ⟨h.1, (ended_state h.1).2 h.2.1⟩)])
    clear hr3 hw
    go_wp2_with fail
    have hV := sets_blk hG3 [.slice ao l.length cap, .int .i64 st, .int .i64 cu, .int .i64 fa] rfl
    have hW := sets_only (g := G) hOw (fun h => by omega) [.slice ao l.length cap, .int .i64 st, .int .i64 cu, .int .i64 fa] 0
    simp only [sets] at hV hW
    refine bodyPost_ret (results_cell_tmp (P := Try.prog) rfl _ _ G _ _ _ _ rfl hV HFS.out rfl size_sg) rfl ?_
    exact ⟨by rw [HR.out]; rfl, hW⟩
end Go.Proofs.Ytogeeeigfhmpmaa

/- Maps from numbers of 64 bits to values of a kind, as functions: made, looked up, stored, counted, ranged over. Over any program. -/
namespace Go.Proofs.Ytogeeeigfhmpmaa
open Go.RowKit Go.Maps

/-- a kind of values that a map holds -/
structure MK (V : Type) where
  val : V → Value
  dat : V → DataW Unit
  rd : Value → Option (DataW Unit × List MemPlace)
  zero : V
  rdv : ∀ x, rd (val x) = some (dat x, [])
  inv : ∀ v y, rd v = some y → ∃ x, v = val x ∧ y = (dat x, [])
  inj : ∀ x y, dat x = dat y → x = y

def uput {V : Type} (F : Nat → Option V) (n : Nat) (x : V) : Nat → Option V := fun i => if i = n then some x else F i
structure UReads {V : Type} (M : MK V) (D : DataW Unit) (F : Nat → Option V) (n : Nat) : Prop where
  keys : ∀ kl, Maps.has D kl = true → ∃ x : Nat, kl = .int .u64 x ∧ x < 18446744073709551616
  has : ∀ x : Nat, Maps.has D (.int .u64 x) = (F x).isSome
  val : ∀ (x : Nat) f, F x = some f → ∀ z, D.atKey (.int .u64 x) z = M.dat f
  size : Maps.size D = n
/-- block b is a map of n entries that holds just these -/
def UMapAt {V : Type} (M : MK V) (P : Program) (k : TypeId) (w : World) (b : Nat) (F : Nat → Option V) (n : Nat) : Prop := ∃ D, w.ownsMap P k M.rd b n D ∧ UReads M D F n

theorem wf_u64n {x : Nat} (h : x < 18446744073709551616) : (Lit.int .u64 x).wf = true := WalkArith.wf_u64 (by omega)
theorem wf_u64_inv {x : Int} (h : (Lit.int .u64 x).wf = true) : 0 ≤ x ∧ x < 18446744073709551616 := by
  simp only [Lit.wf, Bool.and_eq_true, decide_eq_true_eq] at h
  have h1 : (0 : Int) ≤ x := h.1
  have h2 : x ≤ 18446744073709551615 := h.2
  omega
section
variable {V : Type} {M : MK V} {P : Program} {k t e : TypeId} {w w' : World} {b n : Nat} {F : Nat → Option V}
theorem UMapAt.made (M : MK V) (P : Program) (k : TypeId) (w : World) : UMapAt M P k (w.alloc (.map #[] 0)) w.heap.size (fun _ => none) 0 :=
  ⟨.map [], World.ownsMap_made w P k M.rd, ⟨fun kl h => by simp [Maps.has] at h, fun x => rfl, fun x f h => (by cases h), rfl⟩⟩
theorem UMapAt.lt (h : UMapAt M P k w b F n) : b < w.heap.size := by obtain ⟨D, h, _⟩ := h; exact h.lt
theorem UMapAt.keeps {S : Nat → Prop} (h : UMapAt M P k w b F n) (ho : Only S w w') (hs : ¬ S b) : UMapAt M P k w' b F n := by
  obtain ⟨D, ⟨es, clock, hb, r⟩, hr⟩ := h
  exact ⟨D, ⟨es, clock, ho.keeps hs hb, r⟩, hr⟩
theorem UMapAt.ne_cells (h : UMapAt M P k w b F n) {p : Nat} {cs : Array Value} {T : TypeId} {r : Nat × Nat} (hb : w.heap[p]? = some (.cells cs T r)) : b ≠ p := by
  rintro rfl
  obtain ⟨D, ⟨es, clock, hm, _⟩, _⟩ := h
  rw [hm] at hb
  cases hb
theorem UMapAt.range (h : UMapAt M P k w b F n) {x : Nat} {f : V} (hf : F x = some f) : x < 18446744073709551616 := by
  obtain ⟨D, _, hr⟩ := h
  obtain ⟨y, e, hy⟩ := hr.keys (.int .u64 x) (by rw [hr.has, hf]; rfl)
  have : (x : Int) = (y : Int) := by cases e; rfl
  omega
theorem UReads.at_ {D : DataW Unit} (hr : UReads M D F n) {v : Value} {ps : List MemPlace} {x : Nat} (hv : M.rd v = some (D.atKey (.int .u64 x) (M.dat M.zero), ps)) : v = M.val ((F x).getD M.zero) := by
  obtain ⟨f, rfl, hf⟩ := M.inv _ _ hv
  have hf1 : D.atKey (.int .u64 x) (M.dat M.zero) = M.dat f := congrArg Prod.fst hf
  cases hx : F x with
  | none =>
    have : Maps.has D (.int .u64 x) = false := by rw [hr.has x, hx]; rfl
    rw [atKey_of_not_has this] at hf1
    rw [← M.inj _ _ hf1]; rfl
  | some g =>
    rw [hr.val x g hx] at hf1
    rw [← M.inj _ _ hf1]; rfl
theorem UMapAt.look (h : UMapAt M P k w b F n) (K : Keyed P k) (hk : P.underlying k = some (.int .u64)) (ht : P.underlying t = some (.map k e)) (hz : (zeroValue e).run P w = .ok (M.val M.zero) w) {x : Nat} (hx : x < 18446744073709551616) :
    (Instr.lookup t (.map (some b)) (.int .u64 x) true).run P w = .ok (.tuple #[M.val ((F x).getD M.zero), .bool (F x).isSome]) w := by
  obtain ⟨D, hown, hr⟩ := h
  obtain ⟨v, ps, hrun, hv⟩ := hown.look_ok K ht hz (M.rdv M.zero) (keyOf_int_mk hk (wf_u64n hx))
  rw [hrun, hr.has x, hr.at_ hv]
theorem UMapAt.look1 (h : UMapAt M P k w b F n) (K : Keyed P k) (hk : P.underlying k = some (.int .u64)) (ht : P.underlying t = some (.map k e)) (hz : (zeroValue e).run P w = .ok (M.val M.zero) w) {x : Nat} (hx : x < 18446744073709551616) :
    (Instr.lookup t (.map (some b)) (.int .u64 x) false).run P w = .ok (M.val ((F x).getD M.zero)) w := by
  obtain ⟨D, hown, hr⟩ := h
  obtain ⟨v, ps, hrun, hv⟩ := hown.lookup K ht hz (M.rdv M.zero) (keyOf_int_mk hk (wf_u64n hx))
  rw [hrun, hr.at_ hv]
theorem UReads.put {D : DataW Unit} (h : UReads M D F n) (hD : Tidy D) {x : Nat} (hx : x < 18446744073709551616) (f : V) : UReads M (D.put (.int .u64 x) (M.dat f)) (uput F x f) (if (F x).isSome = true then n else n + 1) := by
  have hk : WideAt.IsKeyLit (.int .u64 x) := trivial
  have hne : ∀ y : Nat, y ≠ x → (Lit.int .u64 (y : Int)) ≠ .int .u64 (x : Int) := fun y hy e => hy (by cases e; rfl)
  refine ⟨fun kl hkl => ?_, fun y => ?_, fun y g hg z => ?_, ?_⟩
  · by_cases e : kl = .int .u64 x
    · exact ⟨x, e, hx⟩
    · rw [has_put_other e] at hkl
      exact h.keys kl hkl
  · unfold uput
    by_cases e : y = x
    · subst e; rw [has_put_same hD.isMap hk]; simp
    · rw [has_put_other (hne y e), if_neg e]; exact h.has y
  · unfold uput at hg
    by_cases e : y = x
    · subst e; simp at hg; subst hg; exact atKey_put_same hD.isMap hk _ _
    · rw [if_neg e] at hg; rw [atKey_put_other (hne y e)]; exact h.val y g hg z
  · rw [size_put hD, h.has x, h.size]
theorem UMapAt.store (h : UMapAt M P k w b F n) (K : Keyed P k) (hk : P.underlying k = some (.int .u64)) (ht : P.underlying t = some (.map k e)) (hn : n ≤ 1000000) {x : Nat} (hx : x < 18446744073709551616) (f : V) :
    ∃ w', (Instr.mapUpdate t (.map (some b)) (.int .u64 x) (M.val f)).run P w = .ok () w' ∧ UMapAt M P k w' b (uput F x f) (if (F x).isSome = true then n else n + 1) ∧ w.grownBy w' (some b) := by
  obtain ⟨D, hown, hr⟩ := h
  obtain ⟨w', hrun, hown', ht'⟩ := hown.store K ht (by unfold maxLen; omega) (keyOf_int_mk hk (wf_u64n hx)) (M.rdv f)
  have hr' := hr.put (hown.tidy K) hx f
  refine ⟨w', hrun, ⟨_, ?_, hr'⟩, ht'.grown⟩
  obtain ⟨es, clock, hb, Ft, hs, hD⟩ := hown'
  refine ⟨es, clock, hb, Ft, ?_, hD⟩
  have h2 := hr'.size
  rw [hD] at h2
  rw [← h2]
  simp [Maps.size, length_sorted]
theorem UMapAt.len (h : UMapAt M P k w b F n) (ht : P.underlying t = some (.map k e)) (ty : TypeId) : (Builtin.len_ #[t] ty #[.map (some b)]).run P w = .ok (.int .i64 n) w := by
  obtain ⟨D, hown, hr⟩ := h
  rw [hown.len ht ty, hr.size]
variable {ops : Array Oper} {rest : List Oper} {o : Oper} {a : Act} {Q : Exit → Act → World → Prop}
/-- 'm[x]' -/
theorem wpList_ulook1 (hg : o.guard = none) (m y : Operand) (t : TypeId) (hop : o.op = Op.lookup t m y false) (K : Keyed P k) (hk : P.underlying k = some (.int .u64)) (ht : P.underlying t = some (.map k e)) (hz : ∀ w, (zeroValue e).run P w = .ok (M.val M.zero) w)
    (h : UMapAt M P k w b F n) (hm : a.eval m = .map (some b)) (x : Nat) (hx : a.eval y = .int .u64 x) (hn : x < 18446744073709551616) (v : Value) (hv : M.val ((F x).getD M.zero) = v)
    (hK : wpList P ops Q rest (a.put o.dst v) w) : wpList P ops Q (o :: rest) a w := by
  refine wpList_plain hg fun K' hK' => ?_
  have hrun := h.look1 K hk ht (hz w) hn
  rw [hv] at hrun
  unfold Oper.wp
  simp [execOp, hop, hm, hx, hrun, Result.andThen]
  exact hK' _ _ hK
/-- 'v, ok := m[x]' -/
theorem wpList_ulook (hg : o.guard = none) (m y : Operand) (t : TypeId) (hop : o.op = Op.lookup t m y true) (K : Keyed P k) (hk : P.underlying k = some (.int .u64)) (ht : P.underlying t = some (.map k e)) (hz : ∀ w, (zeroValue e).run P w = .ok (M.val M.zero) w)
    (h : UMapAt M P k w b F n) (hm : a.eval m = .map (some b)) (x : Nat) (hx : a.eval y = .int .u64 x) (hn : x < 18446744073709551616) (v : Value) (hv : M.val ((F x).getD M.zero) = v) (there : Bool) (hth : (F x).isSome = there)
    (hK : wpList P ops Q rest (a.put o.dst (.tuple #[v, .bool there])) w) : wpList P ops Q (o :: rest) a w := by
  refine wpList_plain hg fun K' hK' => ?_
  have hrun := h.look K hk ht (hz w) hn
  rw [hv, hth] at hrun
  unfold Oper.wp
  simp [execOp, hop, hm, hx, hrun, Result.andThen]
  exact hK' _ _ hK
/-- 'm[x] = f' -/
theorem wpList_ustore (hg : o.guard = none) (m y v : Operand) (t : TypeId) (hop : o.op = Op.mapUpdate t m y v) (K : Keyed P k) (hk : P.underlying k = some (.int .u64)) (ht : P.underlying t = some (.map k e))
    (h : UMapAt M P k w b F n) (hn : n ≤ 1000000) (hm : a.eval m = .map (some b)) (x : Nat) (hx : a.eval y = .int .u64 x) (hlt : x < 18446744073709551616) (f : V) (hv : a.eval v = M.val f)
    (hK : ∀ w', UMapAt M P k w' b (uput F x f) (if (F x).isSome = true then n else n + 1) → w.grownBy w' (some b) → wpList P ops Q rest (a.put o.dst undef) w') : wpList P ops Q (o :: rest) a w := by
  refine wpList_plain hg fun K' hK' => ?_
  obtain ⟨w', hrun, r1, r2⟩ := h.store K hk ht hn hlt f
  unfold Oper.wp
  simp [execOp, hop, hm, hx, hv, hrun, Result.andThen]
  exact hK' _ _ (hK w' r1 r2)
/-- 'len(m)' -/
theorem wpList_ulen (hg : o.guard = none) (m : Operand) (t : TypeId) (hop : o.op = Op.call { callee := Callee.builtin Builtin.len, args := #[m], argTypes := #[t] }) (ht : P.underlying t = some (.map k e))
    (h : UMapAt M P k w b F n) (hm : a.eval m = .map (some b)) (hK : wpList P ops Q rest (a.put o.dst (.int .i64 n)) w) : wpList P ops Q (o :: rest) a w := by
  refine wpList_plain hg fun K' hK' => ?_
  unfold Oper.wp
  simp [execOp, hop, resolve, invoke, builtin, hm, h.len ht o.type, Result.andThen]
  exact hK' _ _ hK

/-- a loop over the map: what is still to come -/
structure UGoing (M : MK V) (P : Program) (k : TypeId) (w : World) (b r : Nat) (F : Nat → Option V) (L : Nat → Bool) (cnt : Nat) : Prop where
  going : ∃ (D : DataW Unit) (n : Nat) (left : Lit → Bool), w.ranges P k M.rd b r n D left cnt ∧ UReads M D F n ∧ ∀ x : Nat, left (.int .u64 x) = L x
theorem UGoing.keeps {r cnt : Nat} {L : Nat → Bool} (h : UGoing M P k w b r F L cnt) (ho : Only NoBlock w w') : UGoing M P k w' b r F L cnt := by
  obtain ⟨D, n, left, h1, h2, h3⟩ := h
  exact ⟨D, n, left, h1.kept ho.grownBy (by simp) (by simp), h2, h3⟩
theorem UGoing.keepsG {r cnt : Nat} {L : Nat → Bool} {row : Option Nat} (h : UGoing M P k w b r F L cnt) (hg : w.grownBy w' row) (h1 : some b ≠ row) (h2 : some r ≠ row) : UGoing M P k w' b r F L cnt := by
  obtain ⟨D, n, left, h1', h2', h3⟩ := h
  exact ⟨D, n, left, h1'.kept hg h1 h2, h2', h3⟩
theorem UGoing.keepsS {r cnt : Nat} {L : Nat → Bool} (h : UGoing M P k w b r F L cnt) (B : Nat) (v : Value) (h1 : B ≠ b) (h2 : r ≠ B) : UGoing M P k (w.setCell ⟨B, 0, none⟩ v) b r F L cnt := by
  have hO := (Only.refl (fun k => k = B) w).setCell (p := ⟨B, 0, none⟩) (fun _ => rfl) v
  exact h.keepsG (row := some B) ⟨hO.os, hO.tape, hO.output, hO.size, fun k hk hn => hO.block k hk (fun e => hn (by rw [e]))⟩ (fun e => h1 (by cases e; rfl)) (fun e => h2 (by cases e; rfl))
theorem UGoing.left_eq {r cnt : Nat} {L : Nat → Bool} (h : UGoing M P k w b r F L cnt) : w.rangeLeft b r = cnt := by obtain ⟨D, n, left, h, _⟩ := h; exact h.left_eq
theorem UGoing.lt {r cnt : Nat} {L : Nat → Bool} (h : UGoing M P k w b r F L cnt) : r < w.heap.size ∧ b < w.heap.size := by obtain ⟨D, n, left, h, _⟩ := h; exact ⟨h.lt, h.owns.lt⟩
theorem wpList_urange (hg : o.guard = none) (m : Operand) (t : TypeId) (hop : o.op = Op.range t m) (K : Keyed P k) (ht : P.underlying t = some (.map k e)) (hm : a.eval m = .map (some b)) (h : UMapAt M P k w b F n)
    (hK : ∀ w', UGoing M P k w' b w.heap.size F (fun x => (F x).isSome) n → Only NoBlock w w' → w'.heap.size = w.heap.size + 1 → wpList P ops Q rest (a.put o.dst (.pointer (some ⟨w.heap.size, 0, none⟩))) w') : wpList P ops Q (o :: rest) a w := by
  obtain ⟨D, hown, hr⟩ := h
  refine wpList_range_own w hg m t hop k e K ht M.rd b n D hm hown (fun w' h1 h2 h3 => ?_)
  rw [hr.size] at h1
  exact hK w' ⟨D, n, _, h1, hr, fun x => hr.has x⟩ ((Only.of_grown h2).mono (fun k hk => by cases hk)) h3
theorem wpList_unext {r cnt : Nat} {L : Nat → Bool} (hg : o.guard = none) (it : Operand) (hop : o.op = Op.next it false) (K : Keyed P k) (hk : P.underlying k = some (.int .u64)) (hit : a.eval it = .pointer (some ⟨r, 0, none⟩)) (h : UGoing M P k w b r F L cnt)
    (hDone : (∀ x, L x = false) → wpList P ops Q rest (a.put o.dst (.tuple #[.bool false])) w)
    (hMore : ∀ (x : Nat) (f : V) (w' : World) (cnt' : Nat), x < 18446744073709551616 → F x = some f → L x = true → UGoing M P k w' b r F (fun z => L z && !decide (z = x)) cnt' → cnt' < cnt → Only (fun k => k = r) w w' → w'.heap.size = w.heap.size →
      (Instr.entry (.pointer (some ⟨r, 0, none⟩))).run P w' = .ok (.tuple #[.int .u64 x, M.val f]) w' → wpList P ops Q rest (a.put o.dst (.tuple #[.bool true, .int .u64 x, M.val f])) w') : wpList P ops Q (o :: rest) a w := by
  obtain ⟨D, n, left, h1, h2, h3⟩ := h
  refine wpList_next_ranges w hg it hop k K M.rd (fun x : Int => Value.int .u64 x) M.val (fun key kl hkey => by obtain ⟨x, rfl, _⟩ := Maps.keyOf_int_inv hk hkey; exact ⟨x, rfl⟩) (fun v y hv => by obtain ⟨c, rfl, _⟩ := M.inv v y hv; exact ⟨c, rfl⟩) b r n D left cnt hit h1 ?_ ?_
  · intro _ hl
    exact hDone (fun x => by rw [← h3]; exact hl _)
  · intro x f kl y w' cnt' hkey hlk hv hat hrg hlt hgr hsz hen
    obtain ⟨x', ex, rfl, hwx⟩ := Maps.keyOf_int_inv hk hkey
    cases ex
    obtain ⟨hx0, hx1⟩ := wf_u64_inv hwx
    obtain ⟨j, rfl⟩ : ∃ j : Nat, x = j := ⟨x.toNat, by omega⟩
    obtain ⟨f2, ef, rfl⟩ := M.inv _ _ hv
    have hff : D.atKey (.int .u64 j) (M.dat f2) = M.dat f2 := hat _
    have hrd : M.rd (M.val f) = some (M.dat f, []) := M.rdv f
    have hdd : M.dat f2 = M.dat f := by rw [hrd] at hv; exact (congrArg Prod.fst (Option.some.inj hv)).symm
    have hFj : F j = some f := by
      cases hF : F j with
      | none =>
        exfalso
        have hhas : Maps.has D (.int .u64 j) = false := by rw [h2.has, hF]; rfl
        have e1 : D.atKey (.int .u64 j) (.lit (.bool true)) = M.dat f2 := hat _
        have e2 : D.atKey (.int .u64 j) (.lit (.bool false)) = M.dat f2 := hat _
        rw [atKey_of_not_has hhas] at e1 e2
        rw [← e2] at e1
        cases e1
      | some g =>
        have := h2.val j g hF (M.dat f2)
        rw [hff, hdd] at this
        rw [M.inj _ _ this]
    refine hMore j f w' cnt' (by omega) hFj (by rw [← h3]; exact hlk) ⟨D, n, _, hrg, h2, fun z => ?_⟩ hlt ⟨hgr.os, hgr.tape, hgr.output, hgr.size, fun i hi hne => hgr.block i hi (fun e => hne (by cases e; rfl))⟩ hsz hen
    rw [h3]
    congr 1
    by_cases e : z = j
    · subst e; simp [WideAt.sameKey_self (show WideAt.IsKeyLit (.int .u64 (z : Int)) from trivial)]
    · have : (Lit.int .u64 (z : Int)).sameKey (.int .u64 (j : Int)) = false := by
        cases hs : (Lit.int .u64 (z : Int)).sameKey (.int .u64 (j : Int)) with
        | false => rfl
        | true =>
          have := WideAt.sameKey_eq hs
          exact absurd (by cases this; rfl) e
      simp [this, e]
end
end Go.Proofs.Ytogeeeigfhmpmaa

/- saga.New, session.New, machine.New; the map of sagas. -/
namespace Go.Proofs.Ytogeeeigfhmpmaa
open Go.RowKit Go.Maps
set_option maxRecDepth 100000

set_option maxHeartbeats 1600000 in
theorem snew_at (w : World) (ao : Option Addr) (cap : Nat) (l : List Pk.Stp) (hrow : RowIn stpK 38 w ao l) (hok : Pk.okSs l = true) :
    Calls Try.prog 62 #[.slice ao l.length cap] w fun e w' => ∃ ao' cap', e = .returned (.tuple #[sgV (Mc.fresh l) ao' cap', .int .i64 0]) ∧ RowIn stpK 38 w' ao' l ∧ Only NoBlock w w' := by
  obtain ⟨fs, hfs⟩ := u_sg
  have HFS := Lib.hid hfs
  clear hfs
  have hsm := okSs_small hok
  have hn64 := hsm.1
  have HOK := Lib.hid hok
  clear hok
  go_enter Try.func62, Try.ntmps62
  go_upto_region 1 with fail
  have hG := Blk.made w #[.slice none 0 0, .int .i64 0, .int .i64 0, .int .i64 0] 63
  have hO := (Only.refl NoBlock w).alloc (Obj.cells #[.slice none 0 0, .int .i64 0, .int .i64 0, .int .i64 0] 63)
  have hr := hrow.keepsN hO
  generalize w.alloc (Obj.cells #[.slice none 0 0, .int .i64 0, .int .i64 0, .int .i64 0] 63) = w1 at hG hO hr ⊢
  have hG0 : w.heap.size ≤ w.heap.size := Nat.le_refl _
  generalize hGe : w.heap.size = G at hG ⊢
  have hG0 : w.heap.size ≤ G := by omega
  clear hGe hrow
  go_wp2_with fail
  refine (checkS_at w1 ao cap l hr hsm).mono ?_
  rintro e w2 ⟨rfl, hO2⟩
  rw [if_pos HOK.out]
  have hG2 := hG.keeps hO2 (fun h => h)
  have hr2 := hr.keepsN hO2
  have hO2' := hO.trans hO2
  clear hG hr hO hO2
  have hGl := hG2.lt
  go_wp2_with (first
    | (at_builtin; refine wpList_append_rows stpT _ rfl _ _ rfl w2.heap.size (.slice none 0 0) [] l ao l.length cap rfl (RowAt.nil _ _ _ _) rfl rfl hr2 (by simp; omega) (Nat.le_refl _) ?_; intro v3 w3 hrow3 hg3 hv3; have hG3 : Blk w3 G _ _ := (hg3.block _ hGl (by simp [Value.ownBlock])).trans hG2; have g0 := hG3.cell 0; have g1 := hG3.cell 1; have g2 := hG3.cell 2; have g3 := hG3.cell 3; have u0 := hG3.free 0; have u1 := hG3.free 1; have u2 := hG3.free 2; have u3 := hG3.free 3; simp only [List.getElem?_toArray, List.getElem?_cons_succ, List.getElem?_cons_zero] at g0 g1 g2 g3; rw [List.nil_append] at hrow3; obtain ⟨ao3, cap3, rfl, hin3⟩ := hrow3.read))
  have hO3 : Only NoBlock w w3 := (hO2'.grown hg3 (fun k hk _ => by simp [Value.ownBlock] at hk))
  have hV := sets_blk hG3 [.slice ao3 l.length cap3, .int .i64 1, .int .i64 0, .int .i64 0] rfl
  have hW := sets_only (g := G) hO3 (fun h => by omega) [.slice ao3 l.length cap3, .int .i64 1, .int .i64 0, .int .i64 0] 0
  have hW2 := sets_only (S := fun k => k = G) (g := G) (Only.refl _ w3) (fun _ => rfl) [.slice ao3 l.length cap3, .int .i64 1, .int .i64 0, .int .i64 0] 0
  simp only [sets] at hV hW hW2
  refine bodyPost_ret (results_cell_tmp (P := Try.prog) rfl _ _ G _ _ _ _ rfl hV HFS.out rfl size_sg) rfl ?_
  exact ⟨ao3, cap3, rfl, hin3.keepsT hW2 (fun k hk => by subst hk; exact fun ht => ht.ne_blk hG3 (by decide) rfl), hW⟩

theorem tnew_at (w : World) :
    Calls Try.prog 20 #[] w fun e w' => e = .returned (.pointer (some ⟨w.heap.size, 0, none⟩)) ∧ TabAt w' w.heap.size (.slice none 0 0) Mc.Tab.new ∧ Only NoBlock w w' ∧ w'.heap.size = w.heap.size + 1 := by
  go_enter Try.func20, Try.ntmps20
  go_wp2_with fail
  go_ret
  exact ⟨rfl, ⟨Blk.made w _ _, RowAt.nil _ _ _ _⟩, (Only.refl _ _).alloc _, by simp⟩

/-- a saga as it lies in the map -/
structure SgR where
  at_ : Option (Nat × Nat)
  n : Nat
  cap : Nat
  st : Int
  cu : Int
  fa : Int
def adr : Option (Nat × Nat) → Option Addr
  | none => none
  | some p => some ⟨p.1, p.2, none⟩
def SgR.val (r : SgR) : Value := .agg #[.slice (adr r.at_) r.n r.cap, .int .i64 r.st, .int .i64 r.cu, .int .i64 r.fa]
def SgR.dat (r : SgR) : DataW Unit := .agg [.lit (.bool r.at_.isSome), .lit (.int .i64 ((r.at_.getD (0, 0)).1 : Nat)), .lit (.int .i64 ((r.at_.getD (0, 0)).2 : Nat)), .lit (.int .i64 (r.n : Int)), .lit (.int .i64 (r.cap : Int)), .lit (.int .i64 r.st), .lit (.int .i64 r.cu), .lit (.int .i64 r.fa)]
def SgR.rd : Value → Option (DataW Unit × List MemPlace)
  | .agg cs => match cs.toList with
    | [.slice none n cap, .int .i64 a, .int .i64 b, .int .i64 c] => some (SgR.dat ⟨none, n, cap, a, b, c⟩, [])
    | [.slice (some ⟨x, y, none⟩) n cap, .int .i64 a, .int .i64 b, .int .i64 c] => some (SgR.dat ⟨some (x, y), n, cap, a, b, c⟩, [])
    | _ => none
  | _ => none
def sgM : MK SgR where
  val := SgR.val
  dat := SgR.dat
  rd := SgR.rd
  zero := ⟨none, 0, 0, 0, 0, 0⟩
  rdv := fun x => by obtain ⟨a, n, cap, st, cu, fa⟩ := x; cases a <;> rfl
  inv := fun v y h => by
    unfold SgR.rd at h
    split at h
    · rename_i cs
      split at h
      · rename_i n cap a b c hc
        refine ⟨⟨none, n, cap, a, b, c⟩, ?_, by cases h; rfl⟩
        unfold SgR.val adr
        congr 1
        cases cs; simpa using hc
      · rename_i x y' n cap a b c hc
        refine ⟨⟨some (x, y'), n, cap, a, b, c⟩, ?_, by cases h; rfl⟩
        unfold SgR.val adr
        congr 1
        cases cs; simpa using hc
      · cases h
    · cases h
  inj := fun x y h => by
    obtain ⟨a, n, cap, st, cu, fa⟩ := x
    obtain ⟨a', n', cap', st', cu', fa'⟩ := y
    unfold SgR.dat at h
    simp at h
    obtain ⟨h1, h2, h3, h4, h5, h6, h7, h8⟩ := h
    obtain rfl : n = n' := by omega
    obtain rfl : cap = cap' := by omega
    subst h6 h7 h8
    cases a with
    | none => cases a' with
      | none => rfl
      | some p => simp at h1
    | some p => cases a' with
      | none => simp at h1
      | some q =>
        simp at h2 h3
        obtain ⟨p1, p2⟩ := p
        obtain ⟨q1, q2⟩ := q
        simp at h2 h3
        obtain rfl : p1 = q1 := by omega
        obtain rfl : p2 = q2 := by omega
        rfl
/-- what lies in the map is this saga -/
def SgR.is (w : World) (r : SgR) (s : Mc.Sg) : Prop := SgR.val r = sgV s (adr r.at_) r.cap ∧ RowIn stpK 38 w (adr r.at_) s.steps
/-- block mb is the map of these sagas, n of them -/
def SgsAt (w : World) (mb : Nat) (f : Mc.Sgs) (n : Nat) : Prop := ∃ F : Nat → Option SgR, UMapAt sgM Try.prog 28 w mb F n ∧ ∀ i, (f i = none ∧ F i = none) ∨ ∃ s r, f i = some s ∧ F i = some r ∧ SgR.is w r s
namespace Mk
theorem u_u64k : Try.prog.underlying 28 = some (.int .u64) := by kernel_rfl
theorem law : Keyed Try.prog 28 := int_keyed u_u64k
theorem u_map : Try.prog.underlying 70 = some (.map 28 63) := by kernel_rfl
theorem zero (w : World) : (zeroValue 63).run Try.prog w = .ok (sgM.val sgM.zero) w := by kernel_rfl
end Mk
section
variable {w w' : World} {mb n : Nat} {f : Mc.Sgs}
theorem SgsAt.lt (h : SgsAt w mb f n) : mb < w.heap.size := by obtain ⟨F, h, _⟩ := h; exact h.lt
theorem SgsAt.keeps {S : Nat → Prop} (h : SgsAt w mb f n) (ho : Only S w w') (h1 : ¬ S mb) (h2 : ∀ k, S k → ¬ OfT w k 38) : SgsAt w' mb f n := by
  obtain ⟨F, hm, hF⟩ := h
  refine ⟨F, hm.keeps ho h1, fun i => ?_⟩
  rcases hF i with h0 | ⟨s, r, e1, e2, e3, e4⟩
  · exact .inl h0
  · exact .inr ⟨s, r, e1, e2, e3, e4.keepsT ho h2⟩
theorem SgsAt.keepsN (h : SgsAt w mb f n) (ho : Only NoBlock w w') : SgsAt w' mb f n := h.keeps ho (fun h => h) (fun _ h => h.elim)
theorem SgsAt.ofT_ne (h : SgsAt w mb f n) {p : Nat} {E : TypeId} (hp : OfT w p E) : p ≠ mb := by
  obtain ⟨F, hm, _⟩ := h
  obtain ⟨cs, r, hb⟩ := hp
  exact fun e => hm.ne_cells hb e.symm
theorem SgsAt.not_ofT (h : SgsAt w mb f n) (E : TypeId) : ¬ OfT w mb E := fun hp => h.ofT_ne hp rfl
theorem SgsAt.lookNo {i : Nat} (h : SgsAt w mb f n) (hf : f i = none) (hi : i < 18446744073709551616) : (Instr.lookup 70 (.map (some mb)) (.int .u64 i) true).run Try.prog w = .ok (.tuple #[.agg #[.slice none 0 0, .int .i64 0, .int .i64 0, .int .i64 0], .bool false]) w := by
  obtain ⟨F, hm, hF⟩ := h
  have hl := hm.look Mk.law Mk.u_u64k Mk.u_map (Mk.zero w) hi
  rcases hF i with ⟨_, h0⟩ | ⟨s, r, e1, _⟩
  · rw [h0] at hl; exact hl
  · rw [hf] at e1; cases e1
theorem SgsAt.lookYes {i : Nat} {s : Mc.Sg} (h : SgsAt w mb f n) (hf : f i = some s) (hi : i < 18446744073709551616) : ∃ ao cap, (Instr.lookup 70 (.map (some mb)) (.int .u64 i) true).run Try.prog w = .ok (.tuple #[.agg #[.slice ao s.steps.length cap, .int .i64 s.state, .int .i64 s.cursor, .int .i64 s.failed], .bool true]) w ∧
    (Instr.lookup 70 (.map (some mb)) (.int .u64 i) false).run Try.prog w = .ok (.agg #[.slice ao s.steps.length cap, .int .i64 s.state, .int .i64 s.cursor, .int .i64 s.failed]) w ∧ RowIn stpK 38 w ao s.steps := by
  obtain ⟨F, hm, hF⟩ := h
  have hl := hm.look Mk.law Mk.u_u64k Mk.u_map (Mk.zero w) hi
  have hl1 := hm.look1 Mk.law Mk.u_u64k Mk.u_map (Mk.zero w) hi
  rcases hF i with ⟨h0, _⟩ | ⟨s', r, e1, e2, e3, e4⟩
  · rw [hf] at h0; cases h0
  · rw [hf] at e1
    cases e1
    rw [e2] at hl hl1
    have e3' : sgM.val r = sgV s (adr r.at_) r.cap := e3
    simp only [Option.getD_some, e3'] at hl hl1
    exact ⟨adr r.at_, r.cap, hl, hl1, e4⟩
/-- .. and so behind what changes no block -/
theorem SgsAt.lookAll {i : Nat} {s : Mc.Sg} (h : SgsAt w mb f n) (hf : f i = some s) (hi : i < 18446744073709551616) : ∃ ao cap, RowIn stpK 38 w ao s.steps ∧ ∀ w', Only NoBlock w w' → (Instr.lookup 70 (.map (some mb)) (.int .u64 i) true).run Try.prog w' = .ok (.tuple #[.agg #[.slice ao s.steps.length cap, .int .i64 s.state, .int .i64 s.cursor, .int .i64 s.failed], .bool true]) w' ∧
    (Instr.lookup 70 (.map (some mb)) (.int .u64 i) false).run Try.prog w' = .ok (.agg #[.slice ao s.steps.length cap, .int .i64 s.state, .int .i64 s.cursor, .int .i64 s.failed]) w' := by
  obtain ⟨F, hm, hF⟩ := h
  rcases hF i with ⟨h0, _⟩ | ⟨s', r, e1, e2, e3, e4⟩
  · rw [hf] at h0; cases h0
  · rw [hf] at e1
    cases e1
    refine ⟨adr r.at_, r.cap, e4, fun w' ho => ?_⟩
    have hm' := hm.keeps ho (fun h => h)
    have hl := hm'.look Mk.law Mk.u_u64k Mk.u_map (Mk.zero w') hi
    have hl1 := hm'.look1 Mk.law Mk.u_u64k Mk.u_map (Mk.zero w') hi
    rw [e2] at hl hl1
    have e3' : sgM.val r = sgV s (adr r.at_) r.cap := e3
    simp only [Option.getD_some, e3'] at hl hl1
    exact ⟨hl, hl1⟩
/-- a saga is stored -/
theorem SgsAt.store {i : Nat} {s : Mc.Sg} {ao : Option Addr} {cap : Nat} (h : SgsAt w mb f n) (hn : n ≤ 1000) (hi : i < 18446744073709551616) (hrow : RowIn stpK 38 w ao s.steps) (hp : 0 < s.steps.length) :
    ∃ w', (Instr.mapUpdate 70 (.map (some mb)) (.int .u64 i) (.agg #[.slice ao s.steps.length cap, .int .i64 s.state, .int .i64 s.cursor, .int .i64 s.failed])).run Try.prog w = .ok () w' ∧ SgsAt w' mb (Mc.put f i s) (if (f i).isSome = true then n else n + 1) ∧ w.grownBy w' (some mb) := by
  obtain ⟨b, off, rfl⟩ := hrow.shape hp
  have hno := h.not_ofT 38
  obtain ⟨F, hm, hF⟩ := h
  obtain ⟨w', hrun, h1, h2⟩ := hm.store Mk.law Mk.u_u64k Mk.u_map (by omega) hi ⟨some (b, off), s.steps.length, cap, s.state, s.cursor, s.failed⟩
  have hO := Only.of_grown h2
  have hiso : (F i).isSome = (f i).isSome := by
    rcases hF i with ⟨a, b⟩ | ⟨s', r, e1, e2, _⟩
    · rw [a, b]; rfl
    · rw [e1, e2]; rfl
  refine ⟨w', hrun, ⟨_, by rw [← hiso]; exact h1, fun j => ?_⟩, h2⟩
  unfold uput Mc.put
  by_cases e : j = i
  · subst e
    rw [if_pos rfl, if_pos rfl]
    exact .inr ⟨s, _, rfl, rfl, rfl, hrow.keepsT hO (fun k hk => by cases hk; exact hno)⟩
  · rw [if_neg e, if_neg e]
    rcases hF j with h0 | ⟨s', r, e1, e2, e3, e4⟩
    · exact .inl h0
    · exact .inr ⟨s', r, e1, e2, e3, e4.keepsT hO (fun k hk => by cases hk; exact hno)⟩
theorem SgsAt.made (w : World) : SgsAt (w.alloc (.map #[] 0)) w.heap.size (fun _ => none) 0 := ⟨_, UMapAt.made sgM Try.prog 28 w, fun _ => .inl ⟨rfl, rfl⟩⟩
theorem SgsAt.len (h : SgsAt w mb f n) (ty : TypeId) : (Builtin.len_ #[70] ty #[.map (Option.some mb)]).run Try.prog w = .ok (.int .i64 n) w := by
  obtain ⟨F, hm, _⟩ := h
  exact hm.len Mk.u_map ty
variable {ops : Array Oper} {rest : List Oper} {o : Oper} {a : Act} {Q : Exit → Act → World → Prop}
/-- 'm.sagas[x] = s' -/
theorem wpList_sgstore (hg : o.guard = none) (m y v : Operand) (hop : o.op = Op.mapUpdate 70 m y v) (h : SgsAt w mb f n) (hn : n ≤ 1000) (hm : a.eval m = .map (some mb)) (x : Nat) (hx : a.eval y = .int .u64 x) (hlt : x < 18446744073709551616) (s : Mc.Sg) (ao : Option Addr) (cap : Nat)
    (hv : a.eval v = .agg #[.slice ao s.steps.length cap, .int .i64 s.state, .int .i64 s.cursor, .int .i64 s.failed]) (hrow : RowIn stpK 38 w ao s.steps) (hp : 0 < s.steps.length)
    (hK : ∀ w', SgsAt w' mb (Mc.put f x s) (if (f x).isSome = true then n else n + 1) → w.grownBy w' (some mb) → wpList Try.prog ops Q rest (a.put o.dst undef) w') : wpList Try.prog ops Q (o :: rest) a w := by
  refine wpList_plain hg fun K' hK' => ?_
  obtain ⟨w', hrun, r1, r2⟩ := h.store (cap := cap) hn hlt hrow hp
  unfold Oper.wp
  simp [execOp, hop, hm, hx, hv, hrun, Result.andThen]
  exact hK' _ _ (hK w' r1 r2)
/-- 'len(m.sagas)' -/
theorem wpList_sglen (hg : o.guard = none) (m : Operand) (hop : o.op = Op.call { callee := Callee.builtin Builtin.len, args := #[m], argTypes := #[70] }) (h : SgsAt w mb f n) (hm : a.eval m = .map (some mb))
    (hK : wpList Try.prog ops Q rest (a.put o.dst (.int .i64 n)) w) : wpList Try.prog ops Q (o :: rest) a w := by
  refine wpList_plain hg fun K' hK' => ?_
  unfold Oper.wp
  simp [execOp, hop, resolve, invoke, builtin, hm, h.len o.type, Result.andThen]
  exact hK' _ _ hK
end
end Go.Proofs.Ytogeeeigfhmpmaa

/- machine.Machine's do: a session's command. -/
namespace Go.Proofs.Ytogeeeigfhmpmaa
open Go.RowKit
set_option maxRecDepth 100000

theorem rep_ret {w' : World} {G : Nat} {cs : Array Value} (hG : Blk w' G cs 34) (e n x : Value) (hs : cs.size = 3) : Blk (((w'.setCell ⟨G, 0, none⟩ e).setCell ⟨G, 1, none⟩ n).setCell ⟨G, 2, none⟩ x) G #[e, n, x] 34 := by
  have := sets_blk hG [e, n, x] (by simpa using hs)
  simpa [sets] using this
theorem abort_steps (s : Mc.Sg) : (Mc.abort s).1.steps = s.steps := by
  unfold Mc.abort Mc.backTo
  split
  · simp only
    split <;> rfl
  · rfl
theorem only_new {S : Nat → Prop} {w w7 w8 : World} {G : Nat} (h : Only S w w7) (hG : w.heap.size ≤ G) (hW : Only (fun k => k = G) w7 w8) : Only S w w8 := h.andThen hW (fun i hi e => by subst e; omega)
set_option maxHeartbeats 4000000 in
theorem mdo_none3 (w : World) (p tb mb : Nat) (m : Mc.Mach) (hB : Blk w p #[.pointer (some ⟨tb, 0, none⟩), .map (some mb)] 72) (hS : SgsAt w mb m.sagas m.ids.length) (hk : m.Ok)
    (a b sg now : Nat) (l : List Pk.Stp) (ao : Option Addr) (cap : Nat) (hrow : RowIn stpK 38 w ao l) (hw : sg < 18446744073709551616) (hn : m.sagas sg = none) :
    Calls Try.prog 31 #[.pointer (some ⟨p, 0, none⟩), .agg #[.int .i64 (3 : Nat), .int .u64 a, .int .u64 b, .int .u64 sg, .slice ao l.length cap, .int .i64 (0 : Nat), .bool false, .int .i64 (0 : Nat), .bool false, .int .u64 now]] w fun e w' => e = .returned (repV ⟨43, 0, 0⟩) ∧ Only NoBlock w w' := by
  obtain ⟨fs, hfs⟩ := u_rep
  have HFS := Lib.hid hfs
  clear hfs
  have hlen := hk.len
  go_enter Try.func31, Try.ntmps31
  go_upto_region 1 with fail
  have hX := Blk.made w #[.int .i64 (3 : Nat), .int .u64 a, .int .u64 b, .int .u64 sg, .slice ao l.length cap, .int .i64 (0 : Nat), .bool false, .int .i64 (0 : Nat), .bool false, .int .u64 now] 31
  have hO := (Only.refl NoBlock w).alloc (Obj.cells #[.int .i64 (3 : Nat), .int .u64 a, .int .u64 b, .int .u64 sg, .slice ao l.length cap, .int .i64 (0 : Nat), .bool false, .int .i64 (0 : Nat), .bool false, .int .u64 now] 31)
  have hz : (w.alloc (Obj.cells #[.int .i64 (3 : Nat), .int .u64 a, .int .u64 b, .int .u64 sg, .slice ao l.length cap, .int .i64 (0 : Nat), .bool false, .int .i64 (0 : Nat), .bool false, .int .u64 now] 31)).heap.size = w.heap.size + 1 := by simp
  generalize w.alloc (Obj.cells #[.int .i64 (3 : Nat), .int .u64 a, .int .u64 b, .int .u64 sg, .slice ao l.length cap, .int .i64 (0 : Nat), .bool false, .int .i64 (0 : Nat), .bool false, .int .u64 now] 31) = w1 at hX hO hz ⊢
  rw [← hz]
  have hG := Blk.made w1 #[.int .i64 0, .int .u64 0, .int .u64 0] 34
  have hX2 := hX.alloc (.cells #[.int .i64 0, .int .u64 0, .int .u64 0] 34)
  have hO2 := hO.alloc (.cells #[.int .i64 0, .int .u64 0, .int .u64 0] 34)
  have hG0 : w.heap.size ≤ w1.heap.size := by omega
  have hX0 : w.heap.size ≤ w.heap.size := Nat.le_refl _
  have hml := hS.lt
  generalize w1.alloc (.cells #[.int .i64 0, .int .u64 0, .int .u64 0] 34) = w2 at hG hX2 hO2 ⊢
  generalize w1.heap.size = G at hG hG0 ⊢
  have hGX : w.heap.size ≤ w2.heap.size := hO2.size
  have hmG : mb ≠ G := by omega
  generalize hXe : w.heap.size = X at hX2 ⊢
  have hX0 : w.heap.size ≤ X := by omega
  have hB2 := hB.keeps hO2 (fun h => h)
  have hS2 := hS.keepsN hO2
  have hr2 := hrow.keepsN hO2
  clear hX hO hz hB hS hrow hXe
  have c1 := hB2.cell 1
  have x3 := hX2.cell 3
  simp only [List.getElem?_toArray, List.getElem?_cons_succ, List.getElem?_cons_zero] at c1 x3
  have hAz : Only NoBlock w2 (w2.alloc (Obj.cells #[.slice none 0 0, .int .i64 0, .int .i64 0, .int .i64 0] 63)).drew := ((Only.refl NoBlock w2).alloc _).drew
  have c1A := (hB2.keeps hAz (fun h => h)).cell 1
  have x3A := (hX2.keeps hAz (fun h => h)).cell 3
  simp only [List.getElem?_toArray, List.getElem?_cons_succ, List.getElem?_cons_zero] at c1A x3A
  have hlk := (hS2.keepsN ((Only.refl NoBlock w2).drew)).lookNo hn hw
  have hlkA := (hS2.keepsN hAz).lookNo hn hw
  have c1B := c1A
  have x3B := x3A
  have hlkB := hlkA
  go_region_held3 (fun w' => w'.cell? ⟨p, 1, none⟩ = some (.map (some mb)) ∧ w'.cell? ⟨X, 3, none⟩ = some (.int .u64 sg) ∧ (Instr.lookup 70 (.map (some mb)) (.int .u64 sg) true).run Try.prog w' = .ok (.tuple #[.agg #[.slice none 0 0, .int .i64 0, .int .i64 0, .int .i64 0], .bool false]) w')
    (first | with_reducible exact ⟨c1, x3, hlk⟩ | with_reducible exact ⟨c1A, x3A, hlkA⟩ | with_reducible exact ⟨c1B, x3B, hlkB⟩ | exact ⟨by assumption, by assumption, by assumption⟩ | go_keep)
    (fail)
  all_goals
    clear hlk hlkA c1A x3A hAz c1 x3 hlkB c1B x3B
    have hSx := (Blk.made w2 #[.slice none 0 0, .int .i64 0, .int .i64 0, .int .i64 0] 63).drew
    have hA := ((Only.refl NoBlock w2).alloc (Obj.cells #[.slice none 0 0, .int .i64 0, .int .i64 0, .int .i64 0] 63)).drew
    have hB3 := hB2.keeps hA (fun h => h)
    have hG3 := hG.keeps hA (fun h => h)
    have hX3 := hX2.keeps hA (fun h => h)
    have hS3 := hS2.keepsN hA
    have hr3 := hr2.keepsN hA
    have hO3 := hO2.trans hA
    have hAs := hA
    have hSx0 : w.heap.size ≤ w2.heap.size := hO2.size
    have hGS : G ≠ w2.heap.size := by have := hG.lt; omega
    have hXS : X ≠ w2.heap.size := by have := hX2.lt; omega
    have hmS : mb ≠ w2.heap.size := by omega
    have hpS : p ≠ w2.heap.size := by have := hB2.lt; omega
    generalize (w2.alloc (Obj.cells #[.slice none 0 0, .int .i64 0, .int .i64 0, .int .i64 0] 63)).drew = w3 at hSx hB3 hG3 hX3 hS3 hr3 hO3 hAs ⊢
    generalize w2.heap.size = Sx at hSx hSx0 hGS hXS hmS hpS ⊢
    clear hA hB2 hG hX2 hS2 hr2 hO2 hGX
    have x0 := hX3.cell 0
    simp only [List.getElem?_toArray, List.getElem?_cons_zero] at x0
    have g0 := hG3.cell 0
    have gf0 := hG3.free 0
    have g1 := hG3.cell 1
    have gf1 := hG3.free 1
    have g2 := hG3.cell 2
    have gf2 := hG3.free 2
    simp only [List.getElem?_toArray, List.getElem?_cons_succ, List.getElem?_cons_zero] at g0 g1 g2
    go_wp2_with fail
    have hV := rep_ret hG3 (.int .i64 43) (.int .u64 0) (.int .u64 0) rfl
    refine bodyPost_ret (results_cell_row (P := Try.prog) rfl _ _ G _ _ _ _ rfl hV HFS.out rfl size_rep) rfl ?_
    exact ⟨rfl, ((hO3.setCell (p := ⟨G, 0, none⟩) (fun h => by have h' : G < w.heap.size := h; omega) (.int .i64 43)).setCell (p := ⟨G, 1, none⟩) (fun h => by have h' : G < w.heap.size := h; omega) (.int .u64 0)).setCell (p := ⟨G, 2, none⟩) (fun h => by have h' : G < w.heap.size := h; omega) (.int .u64 0)⟩
set_option maxHeartbeats 4000000 in
theorem mdo_none5 (w : World) (p tb mb : Nat) (m : Mc.Mach) (hB : Blk w p #[.pointer (some ⟨tb, 0, none⟩), .map (some mb)] 72) (hS : SgsAt w mb m.sagas m.ids.length) (hk : m.Ok)
    (a b sg now : Nat) (l : List Pk.Stp) (ao : Option Addr) (cap : Nat) (hrow : RowIn stpK 38 w ao l) (hw : sg < 18446744073709551616) (hn : m.sagas sg = none) :
    Calls Try.prog 31 #[.pointer (some ⟨p, 0, none⟩), .agg #[.int .i64 (5 : Nat), .int .u64 a, .int .u64 b, .int .u64 sg, .slice ao l.length cap, .int .i64 (0 : Nat), .bool false, .int .i64 (0 : Nat), .bool false, .int .u64 now]] w fun e w' => e = .returned (repV ⟨43, 0, 0⟩) ∧ Only NoBlock w w' := by
  obtain ⟨fs, hfs⟩ := u_rep
  have HFS := Lib.hid hfs
  clear hfs
  have hlen := hk.len
  go_enter Try.func31, Try.ntmps31
  go_upto_region 1 with fail
  have hX := Blk.made w #[.int .i64 (5 : Nat), .int .u64 a, .int .u64 b, .int .u64 sg, .slice ao l.length cap, .int .i64 (0 : Nat), .bool false, .int .i64 (0 : Nat), .bool false, .int .u64 now] 31
  have hO := (Only.refl NoBlock w).alloc (Obj.cells #[.int .i64 (5 : Nat), .int .u64 a, .int .u64 b, .int .u64 sg, .slice ao l.length cap, .int .i64 (0 : Nat), .bool false, .int .i64 (0 : Nat), .bool false, .int .u64 now] 31)
  have hz : (w.alloc (Obj.cells #[.int .i64 (5 : Nat), .int .u64 a, .int .u64 b, .int .u64 sg, .slice ao l.length cap, .int .i64 (0 : Nat), .bool false, .int .i64 (0 : Nat), .bool false, .int .u64 now] 31)).heap.size = w.heap.size + 1 := by simp
  generalize w.alloc (Obj.cells #[.int .i64 (5 : Nat), .int .u64 a, .int .u64 b, .int .u64 sg, .slice ao l.length cap, .int .i64 (0 : Nat), .bool false, .int .i64 (0 : Nat), .bool false, .int .u64 now] 31) = w1 at hX hO hz ⊢
  rw [← hz]
  have hG := Blk.made w1 #[.int .i64 0, .int .u64 0, .int .u64 0] 34
  have hX2 := hX.alloc (.cells #[.int .i64 0, .int .u64 0, .int .u64 0] 34)
  have hO2 := hO.alloc (.cells #[.int .i64 0, .int .u64 0, .int .u64 0] 34)
  have hG0 : w.heap.size ≤ w1.heap.size := by omega
  have hX0 : w.heap.size ≤ w.heap.size := Nat.le_refl _
  have hml := hS.lt
  generalize w1.alloc (.cells #[.int .i64 0, .int .u64 0, .int .u64 0] 34) = w2 at hG hX2 hO2 ⊢
  generalize w1.heap.size = G at hG hG0 ⊢
  have hGX : w.heap.size ≤ w2.heap.size := hO2.size
  have hmG : mb ≠ G := by omega
  generalize hXe : w.heap.size = X at hX2 ⊢
  have hX0 : w.heap.size ≤ X := by omega
  have hB2 := hB.keeps hO2 (fun h => h)
  have hS2 := hS.keepsN hO2
  have hr2 := hrow.keepsN hO2
  clear hX hO hz hB hS hrow hXe
  have c1 := hB2.cell 1
  have x3 := hX2.cell 3
  simp only [List.getElem?_toArray, List.getElem?_cons_succ, List.getElem?_cons_zero] at c1 x3
  have hAz : Only NoBlock w2 (w2.alloc (Obj.cells #[.slice none 0 0, .int .i64 0, .int .i64 0, .int .i64 0] 63)).drew := ((Only.refl NoBlock w2).alloc _).drew
  have c1A := (hB2.keeps hAz (fun h => h)).cell 1
  have x3A := (hX2.keeps hAz (fun h => h)).cell 3
  simp only [List.getElem?_toArray, List.getElem?_cons_succ, List.getElem?_cons_zero] at c1A x3A
  have hlk := (hS2.keepsN ((Only.refl NoBlock w2).drew)).lookNo hn hw
  have hlkA := (hS2.keepsN hAz).lookNo hn hw
  have c1B := c1A
  have x3B := x3A
  have hlkB := hlkA
  go_region_held3 (fun w' => w'.cell? ⟨p, 1, none⟩ = some (.map (some mb)) ∧ w'.cell? ⟨X, 3, none⟩ = some (.int .u64 sg) ∧ (Instr.lookup 70 (.map (some mb)) (.int .u64 sg) true).run Try.prog w' = .ok (.tuple #[.agg #[.slice none 0 0, .int .i64 0, .int .i64 0, .int .i64 0], .bool false]) w')
    (first | with_reducible exact ⟨c1, x3, hlk⟩ | with_reducible exact ⟨c1A, x3A, hlkA⟩ | with_reducible exact ⟨c1B, x3B, hlkB⟩ | exact ⟨by assumption, by assumption, by assumption⟩ | go_keep)
    (fail)
  all_goals
    clear hlk hlkA c1A x3A hAz c1 x3 hlkB c1B x3B
    have hSx := (Blk.made w2 #[.slice none 0 0, .int .i64 0, .int .i64 0, .int .i64 0] 63).drew
    have hA := ((Only.refl NoBlock w2).alloc (Obj.cells #[.slice none 0 0, .int .i64 0, .int .i64 0, .int .i64 0] 63)).drew
    have hB3 := hB2.keeps hA (fun h => h)
    have hG3 := hG.keeps hA (fun h => h)
    have hX3 := hX2.keeps hA (fun h => h)
    have hS3 := hS2.keepsN hA
    have hr3 := hr2.keepsN hA
    have hO3 := hO2.trans hA
    have hAs := hA
    have hSx0 : w.heap.size ≤ w2.heap.size := hO2.size
    have hGS : G ≠ w2.heap.size := by have := hG.lt; omega
    have hXS : X ≠ w2.heap.size := by have := hX2.lt; omega
    have hmS : mb ≠ w2.heap.size := by omega
    have hpS : p ≠ w2.heap.size := by have := hB2.lt; omega
    generalize (w2.alloc (Obj.cells #[.slice none 0 0, .int .i64 0, .int .i64 0, .int .i64 0] 63)).drew = w3 at hSx hB3 hG3 hX3 hS3 hr3 hO3 hAs ⊢
    generalize w2.heap.size = Sx at hSx hSx0 hGS hXS hmS hpS ⊢
    clear hA hB2 hG hX2 hS2 hr2 hO2 hGX
    have x0 := hX3.cell 0
    simp only [List.getElem?_toArray, List.getElem?_cons_zero] at x0
    have g0 := hG3.cell 0
    have gf0 := hG3.free 0
    have g1 := hG3.cell 1
    have gf1 := hG3.free 1
    have g2 := hG3.cell 2
    have gf2 := hG3.free 2
    simp only [List.getElem?_toArray, List.getElem?_cons_succ, List.getElem?_cons_zero] at g0 g1 g2
    go_wp2_with fail
    have hV := rep_ret hG3 (.int .i64 43) (.int .u64 0) (.int .u64 0) rfl
    refine bodyPost_ret (results_cell_row (P := Try.prog) rfl _ _ G _ _ _ _ rfl hV HFS.out rfl size_rep) rfl ?_
    exact ⟨rfl, ((hO3.setCell (p := ⟨G, 0, none⟩) (fun h => by have h' : G < w.heap.size := h; omega) (.int .i64 43)).setCell (p := ⟨G, 1, none⟩) (fun h => by have h' : G < w.heap.size := h; omega) (.int .u64 0)).setCell (p := ⟨G, 2, none⟩) (fun h => by have h' : G < w.heap.size := h; omega) (.int .u64 0)⟩
set_option maxHeartbeats 4000000 in
theorem mdo_full (w : World) (p tb mb : Nat) (m : Mc.Mach) (hB : Blk w p #[.pointer (some ⟨tb, 0, none⟩), .map (some mb)] 72) (hS : SgsAt w mb m.sagas m.ids.length) (hk : m.Ok)
    (a b sg now : Nat) (l : List Pk.Stp) (ao : Option Addr) (cap : Nat) (hrow : RowIn stpK 38 w ao l) (hw : sg < 18446744073709551616) (hn : m.sagas sg = none) (hfull : 16 ≤ m.ids.length) :
    Calls Try.prog 31 #[.pointer (some ⟨p, 0, none⟩), .agg #[.int .i64 (2 : Nat), .int .u64 a, .int .u64 b, .int .u64 sg, .slice ao l.length cap, .int .i64 (0 : Nat), .bool false, .int .i64 (0 : Nat), .bool false, .int .u64 now]] w fun e w' => e = .returned (repV ⟨11, 0, 0⟩) ∧ Only NoBlock w w' := by
  obtain ⟨fs, hfs⟩ := u_rep
  have HFS := Lib.hid hfs
  clear hfs
  have hlen := hk.len
  go_enter Try.func31, Try.ntmps31
  go_upto_region 1 with fail
  have hX := Blk.made w #[.int .i64 (2 : Nat), .int .u64 a, .int .u64 b, .int .u64 sg, .slice ao l.length cap, .int .i64 (0 : Nat), .bool false, .int .i64 (0 : Nat), .bool false, .int .u64 now] 31
  have hO := (Only.refl NoBlock w).alloc (Obj.cells #[.int .i64 (2 : Nat), .int .u64 a, .int .u64 b, .int .u64 sg, .slice ao l.length cap, .int .i64 (0 : Nat), .bool false, .int .i64 (0 : Nat), .bool false, .int .u64 now] 31)
  have hz : (w.alloc (Obj.cells #[.int .i64 (2 : Nat), .int .u64 a, .int .u64 b, .int .u64 sg, .slice ao l.length cap, .int .i64 (0 : Nat), .bool false, .int .i64 (0 : Nat), .bool false, .int .u64 now] 31)).heap.size = w.heap.size + 1 := by simp
  generalize w.alloc (Obj.cells #[.int .i64 (2 : Nat), .int .u64 a, .int .u64 b, .int .u64 sg, .slice ao l.length cap, .int .i64 (0 : Nat), .bool false, .int .i64 (0 : Nat), .bool false, .int .u64 now] 31) = w1 at hX hO hz ⊢
  rw [← hz]
  have hG := Blk.made w1 #[.int .i64 0, .int .u64 0, .int .u64 0] 34
  have hX2 := hX.alloc (.cells #[.int .i64 0, .int .u64 0, .int .u64 0] 34)
  have hO2 := hO.alloc (.cells #[.int .i64 0, .int .u64 0, .int .u64 0] 34)
  have hG0 : w.heap.size ≤ w1.heap.size := by omega
  have hX0 : w.heap.size ≤ w.heap.size := Nat.le_refl _
  have hml := hS.lt
  generalize w1.alloc (.cells #[.int .i64 0, .int .u64 0, .int .u64 0] 34) = w2 at hG hX2 hO2 ⊢
  generalize w1.heap.size = G at hG hG0 ⊢
  have hGX : w.heap.size ≤ w2.heap.size := hO2.size
  have hmG : mb ≠ G := by omega
  generalize hXe : w.heap.size = X at hX2 ⊢
  have hX0 : w.heap.size ≤ X := by omega
  have hB2 := hB.keeps hO2 (fun h => h)
  have hS2 := hS.keepsN hO2
  have hr2 := hrow.keepsN hO2
  clear hX hO hz hB hS hrow hXe
  have c1 := hB2.cell 1
  have x3 := hX2.cell 3
  simp only [List.getElem?_toArray, List.getElem?_cons_succ, List.getElem?_cons_zero] at c1 x3
  have hAz : Only NoBlock w2 (w2.alloc (Obj.cells #[.slice none 0 0, .int .i64 0, .int .i64 0, .int .i64 0] 63)).drew := ((Only.refl NoBlock w2).alloc _).drew
  have c1A := (hB2.keeps hAz (fun h => h)).cell 1
  have x3A := (hX2.keeps hAz (fun h => h)).cell 3
  simp only [List.getElem?_toArray, List.getElem?_cons_succ, List.getElem?_cons_zero] at c1A x3A
  have hlk := (hS2.keepsN ((Only.refl NoBlock w2).drew)).lookNo hn hw
  have hlkA := (hS2.keepsN hAz).lookNo hn hw
  have c1B := c1A
  have x3B := x3A
  have hlkB := hlkA
  go_region_held3 (fun w' => w'.cell? ⟨p, 1, none⟩ = some (.map (some mb)) ∧ w'.cell? ⟨X, 3, none⟩ = some (.int .u64 sg) ∧ (Instr.lookup 70 (.map (some mb)) (.int .u64 sg) true).run Try.prog w' = .ok (.tuple #[.agg #[.slice none 0 0, .int .i64 0, .int .i64 0, .int .i64 0], .bool false]) w')
    (first | with_reducible exact ⟨c1, x3, hlk⟩ | with_reducible exact ⟨c1A, x3A, hlkA⟩ | with_reducible exact ⟨c1B, x3B, hlkB⟩ | exact ⟨by assumption, by assumption, by assumption⟩ | go_keep)
    (fail)
  all_goals
    clear hlk hlkA c1A x3A hAz c1 x3 hlkB c1B x3B
    have hSx := (Blk.made w2 #[.slice none 0 0, .int .i64 0, .int .i64 0, .int .i64 0] 63).drew
    have hA := ((Only.refl NoBlock w2).alloc (Obj.cells #[.slice none 0 0, .int .i64 0, .int .i64 0, .int .i64 0] 63)).drew
    have hB3 := hB2.keeps hA (fun h => h)
    have hG3 := hG.keeps hA (fun h => h)
    have hX3 := hX2.keeps hA (fun h => h)
    have hS3 := hS2.keepsN hA
    have hr3 := hr2.keepsN hA
    have hO3 := hO2.trans hA
    have hAs := hA
    have hSx0 : w.heap.size ≤ w2.heap.size := hO2.size
    have hGS : G ≠ w2.heap.size := by have := hG.lt; omega
    have hXS : X ≠ w2.heap.size := by have := hX2.lt; omega
    have hmS : mb ≠ w2.heap.size := by omega
    have hpS : p ≠ w2.heap.size := by have := hB2.lt; omega
    generalize (w2.alloc (Obj.cells #[.slice none 0 0, .int .i64 0, .int .i64 0, .int .i64 0] 63)).drew = w3 at hSx hB3 hG3 hX3 hS3 hr3 hO3 hAs ⊢
    generalize w2.heap.size = Sx at hSx hSx0 hGS hXS hmS hpS ⊢
    clear hA hB2 hG hX2 hS2 hr2 hO2 hGX
    have x0 := hX3.cell 0
    simp only [List.getElem?_toArray, List.getElem?_cons_zero] at x0
    have c1 := hB3.cell 1
    simp only [List.getElem?_toArray, List.getElem?_cons_succ, List.getElem?_cons_zero] at c1
    have g0 := hG3.cell 0
    have gf0 := hG3.free 0
    have g1 := hG3.cell 1
    have gf1 := hG3.free 1
    have g2 := hG3.cell 2
    have gf2 := hG3.free 2
    simp only [List.getElem?_toArray, List.getElem?_cons_succ, List.getElem?_cons_zero] at g0 g1 g2
    have dl : decide (16 ≤ (m.ids.length : Int)) = true := by simp; omega
    clear hfull
    go_wp2_with (first | (at_len; refine wpList_sglen rfl _ rfl hS3 rfl ?_))
    have hV := rep_ret hG3 (.int .i64 11) (.int .u64 0) (.int .u64 0) rfl
    refine bodyPost_ret (results_cell_row (P := Try.prog) rfl _ _ G _ _ _ _ rfl hV HFS.out rfl size_rep) rfl ?_
    exact ⟨rfl, ((hO3.setCell (p := ⟨G, 0, none⟩) (fun h => by have h' : G < w.heap.size := h; omega) (.int .i64 11)).setCell (p := ⟨G, 1, none⟩) (fun h => by have h' : G < w.heap.size := h; omega) (.int .u64 0)).setCell (p := ⟨G, 2, none⟩) (fun h => by have h' : G < w.heap.size := h; omega) (.int .u64 0)⟩
set_option maxHeartbeats 4000000 in
theorem mdo_new (w : World) (p tb mb : Nat) (m : Mc.Mach) (hB : Blk w p #[.pointer (some ⟨tb, 0, none⟩), .map (some mb)] 72) (hS : SgsAt w mb m.sagas m.ids.length) (hk : m.Ok)
    (a b sg now : Nat) (l : List Pk.Stp) (ao : Option Addr) (cap : Nat) (hrow : RowIn stpK 38 w ao l) (hw : sg < 18446744073709551616) (hn : m.sagas sg = none) (hroom : ¬ 16 ≤ m.ids.length) (hok : Pk.okSs l = true) :
    Calls Try.prog 31 #[.pointer (some ⟨p, 0, none⟩), .agg #[.int .i64 (2 : Nat), .int .u64 a, .int .u64 b, .int .u64 sg, .slice ao l.length cap, .int .i64 (0 : Nat), .bool false, .int .i64 (0 : Nat), .bool false, .int .u64 now]] w fun e w' => e = .returned (repV (Mc.told (Mc.fresh l))) ∧ SgsAt w' mb (Mc.put m.sagas sg (Mc.fresh l)) (m.ids.length + 1) ∧ Only (fun k => k = mb) w w' := by
  obtain ⟨fs, hfs⟩ := u_rep
  have HFS := Lib.hid hfs
  clear hfs
  have hlen := hk.len
  go_enter Try.func31, Try.ntmps31
  go_upto_region 1 with fail
  have hX := Blk.made w #[.int .i64 (2 : Nat), .int .u64 a, .int .u64 b, .int .u64 sg, .slice ao l.length cap, .int .i64 (0 : Nat), .bool false, .int .i64 (0 : Nat), .bool false, .int .u64 now] 31
  have hO := (Only.refl NoBlock w).alloc (Obj.cells #[.int .i64 (2 : Nat), .int .u64 a, .int .u64 b, .int .u64 sg, .slice ao l.length cap, .int .i64 (0 : Nat), .bool false, .int .i64 (0 : Nat), .bool false, .int .u64 now] 31)
  have hz : (w.alloc (Obj.cells #[.int .i64 (2 : Nat), .int .u64 a, .int .u64 b, .int .u64 sg, .slice ao l.length cap, .int .i64 (0 : Nat), .bool false, .int .i64 (0 : Nat), .bool false, .int .u64 now] 31)).heap.size = w.heap.size + 1 := by simp
  generalize w.alloc (Obj.cells #[.int .i64 (2 : Nat), .int .u64 a, .int .u64 b, .int .u64 sg, .slice ao l.length cap, .int .i64 (0 : Nat), .bool false, .int .i64 (0 : Nat), .bool false, .int .u64 now] 31) = w1 at hX hO hz ⊢
  rw [← hz]
  have hG := Blk.made w1 #[.int .i64 0, .int .u64 0, .int .u64 0] 34
  have hX2 := hX.alloc (.cells #[.int .i64 0, .int .u64 0, .int .u64 0] 34)
  have hO2 := hO.alloc (.cells #[.int .i64 0, .int .u64 0, .int .u64 0] 34)
  have hG0 : w.heap.size ≤ w1.heap.size := by omega
  have hX0 : w.heap.size ≤ w.heap.size := Nat.le_refl _
  have hml := hS.lt
  generalize w1.alloc (.cells #[.int .i64 0, .int .u64 0, .int .u64 0] 34) = w2 at hG hX2 hO2 ⊢
  generalize w1.heap.size = G at hG hG0 ⊢
  have hGX : w.heap.size ≤ w2.heap.size := hO2.size
  have hmG : mb ≠ G := by omega
  generalize hXe : w.heap.size = X at hX2 ⊢
  have hX0 : w.heap.size ≤ X := by omega
  have hB2 := hB.keeps hO2 (fun h => h)
  have hS2 := hS.keepsN hO2
  have hr2 := hrow.keepsN hO2
  clear hX hO hz hB hS hrow hXe
  have c1 := hB2.cell 1
  have x3 := hX2.cell 3
  simp only [List.getElem?_toArray, List.getElem?_cons_succ, List.getElem?_cons_zero] at c1 x3
  have hAz : Only NoBlock w2 (w2.alloc (Obj.cells #[.slice none 0 0, .int .i64 0, .int .i64 0, .int .i64 0] 63)).drew := ((Only.refl NoBlock w2).alloc _).drew
  have c1A := (hB2.keeps hAz (fun h => h)).cell 1
  have x3A := (hX2.keeps hAz (fun h => h)).cell 3
  simp only [List.getElem?_toArray, List.getElem?_cons_succ, List.getElem?_cons_zero] at c1A x3A
  have hlk := (hS2.keepsN ((Only.refl NoBlock w2).drew)).lookNo hn hw
  have hlkA := (hS2.keepsN hAz).lookNo hn hw
  have c1B := c1A
  have x3B := x3A
  have hlkB := hlkA
  go_region_held3 (fun w' => w'.cell? ⟨p, 1, none⟩ = some (.map (some mb)) ∧ w'.cell? ⟨X, 3, none⟩ = some (.int .u64 sg) ∧ (Instr.lookup 70 (.map (some mb)) (.int .u64 sg) true).run Try.prog w' = .ok (.tuple #[.agg #[.slice none 0 0, .int .i64 0, .int .i64 0, .int .i64 0], .bool false]) w')
    (first | with_reducible exact ⟨c1, x3, hlk⟩ | with_reducible exact ⟨c1A, x3A, hlkA⟩ | with_reducible exact ⟨c1B, x3B, hlkB⟩ | exact ⟨by assumption, by assumption, by assumption⟩ | go_keep)
    (fail)
  all_goals
    clear hlk hlkA c1A x3A hAz c1 x3 hlkB c1B x3B
    have hSx := (Blk.made w2 #[.slice none 0 0, .int .i64 0, .int .i64 0, .int .i64 0] 63).drew
    have hA := ((Only.refl NoBlock w2).alloc (Obj.cells #[.slice none 0 0, .int .i64 0, .int .i64 0, .int .i64 0] 63)).drew
    have hB3 := hB2.keeps hA (fun h => h)
    have hG3 := hG.keeps hA (fun h => h)
    have hX3 := hX2.keeps hA (fun h => h)
    have hS3 := hS2.keepsN hA
    have hr3 := hr2.keepsN hA
    have hO3 := hO2.trans hA
    have hAs := hA
    have hSx0 : w.heap.size ≤ w2.heap.size := hO2.size
    have hGS : G ≠ w2.heap.size := by have := hG.lt; omega
    have hXS : X ≠ w2.heap.size := by have := hX2.lt; omega
    have hmS : mb ≠ w2.heap.size := by omega
    have hpS : p ≠ w2.heap.size := by have := hB2.lt; omega
    generalize (w2.alloc (Obj.cells #[.slice none 0 0, .int .i64 0, .int .i64 0, .int .i64 0] 63)).drew = w3 at hSx hB3 hG3 hX3 hS3 hr3 hO3 hAs ⊢
    generalize w2.heap.size = Sx at hSx hSx0 hGS hXS hmS hpS ⊢
    clear hA hB2 hG hX2 hS2 hr2 hO2 hGX
    have hl1 := (okSs_small hok).1
    have hl0 : 0 < l.length := (Mc.okSs_pos hok).1
    have x0 := hX3.cell 0
    have x1 := hX3.cell 1
    have x2 := hX3.cell 2
    have x3 := hX3.cell 3
    have x4 := hX3.cell 4
    simp only [List.getElem?_toArray, List.getElem?_cons_succ, List.getElem?_cons_zero] at x0 x1 x2 x3 x4
    have s0 := hSx.cell 0
    have sf0 := hSx.free 0
    have s1 := hSx.cell 1
    have sf1 := hSx.free 1
    have s2 := hSx.cell 2
    have sf2 := hSx.free 2
    have s3 := hSx.cell 3
    have sf3 := hSx.free 3
    simp only [List.getElem?_toArray, List.getElem?_cons_succ, List.getElem?_cons_zero] at s0 s1 s2 s3
    have c1 := hB3.cell 1
    simp only [List.getElem?_toArray, List.getElem?_cons_succ, List.getElem?_cons_zero] at c1
    have dl : decide (16 ≤ (m.ids.length : Int)) = false := by simp; omega
    clear hroom
    have HOK := Lib.hid hok
    clear hok
    go_wp2_with (first | (at_len; refine wpList_sglen rfl _ rfl hS3 rfl ?_))
    refine (snew_at w3 ao cap l hr3 HOK.out).mono ?_
    rintro e w4 ⟨ao4, cap4, rfl, hr4, hO4⟩
    have hB4 := hB3.keeps hO4 (fun h => h)
    have hG4 := hG3.keeps hO4 (fun h => h)
    have hX4 := hX3.keeps hO4 (fun h => h)
    have hS4 := hS3.keepsN hO4
    have hSx4 := hSx.keeps hO4 (fun h => h)
    have hO4' := hO3.trans hO4
    clear hB3 hG3 hX3 hS3 hSx hO3 hr3 c1 dl
    clear x0 x1 x2 x3 x4
    clear s0 s1 s2 s3 sf0 sf1 sf2 sf3
    have s0 := hSx4.cell 0
    have sf0 := hSx4.free 0
    have s1 := hSx4.cell 1
    have sf1 := hSx4.free 1
    have s2 := hSx4.cell 2
    have sf2 := hSx4.free 2
    have s3 := hSx4.cell 3
    have sf3 := hSx4.free 3
    simp only [List.getElem?_toArray, List.getElem?_cons_succ, List.getElem?_cons_zero] at s0 s1 s2 s3
    unfold sgV Mc.fresh
    go_upto_region 11 with fail
    have hZ := sets_only (S := fun k => k = Sx) (g := Sx) (Only.refl _ w4) (fun _ => rfl) [.slice ao4 l.length cap4, .int .i64 1, .int .i64 0, .int .i64 0] 0
    have hSx5 := sets_blk hSx4 [.slice ao4 l.length cap4, .int .i64 1, .int .i64 0, .int .i64 0] rfl
    have hO5 := sets_only (g := Sx) hO4' (fun h => by omega) [.slice ao4 l.length cap4, .int .i64 1, .int .i64 0, .int .i64 0] 0
    simp only [sets] at hZ hSx5 hO5
    have hB5 := hB4.keeps hZ (fun e => hpS e)
    have hG5 := hG4.keeps hZ (fun e => hGS e)
    have hX5 := hX4.keeps hZ (fun e => hXS e)
    have hS5 := hS4.keeps hZ (fun e => hmS e) (fun k hk => by subst hk; exact fun ht => ht.ne_blk hSx4 (by decide) rfl)
    have hr5 := hr4.keepsT hZ (fun k hk => by subst hk; exact fun ht => ht.ne_blk hSx4 (by decide) rfl)
    generalize ((((w4.setCell ⟨Sx, 0, none⟩ (.slice ao4 l.length cap4)).setCell ⟨Sx, 0 + 1, none⟩ (.int .i64 1)).setCell ⟨Sx, 0 + 1 + 1, none⟩ (.int .i64 0)).setCell ⟨Sx, 0 + 1 + 1 + 1, none⟩ (.int .i64 0)) = w5 at hSx5 hO5 hB5 hG5 hX5 hS5 hr5 ⊢
    clear hZ hB4 hG4 hX4 hS4 hSx4 hO4' hr4
    clear s0 s1 s2 s3 sf0 sf1 sf2 sf3
    have s0 := hSx5.cell 0
    have sf0 := hSx5.free 0
    have s1 := hSx5.cell 1
    have sf1 := hSx5.free 1
    have s2 := hSx5.cell 2
    have sf2 := hSx5.free 2
    have s3 := hSx5.cell 3
    have sf3 := hSx5.free 3
    simp only [List.getElem?_toArray, List.getElem?_cons_succ, List.getElem?_cons_zero] at s0 s1 s2 s3
    have c1 := hB5.cell 1
    have x3 := hX5.cell 3
    simp only [List.getElem?_toArray, List.getElem?_cons_succ, List.getElem?_cons_zero] at c1 x3
    refine wp_region_tail 7 (by kernel_rfl) (by kernel_rfl) ?_
    simp only [List.take_succ_cons, List.take_zero, List.drop_succ_cons, List.drop_zero]
    repeat still_step
    try refine wpStill_nil ?_
    have hS5d := hS5.keepsN ((Only.refl NoBlock w5).drew)
    have hr5d := hr5.keepsN ((Only.refl NoBlock w5).drew)
    go_upto_region 17 with (first | (at_mapUpdate; refine wpList_sgstore rfl _ _ _ rfl hS5d (by omega) rfl sg rfl hw (Mc.fresh l) ao4 cap4 rfl hr5d hl0 ?_; intro w6 hS6 hg6))
    have hOm := Only.of_grown hg6
    have hG6 := (Blk.drew hG5).keeps hOm (fun e => hmG (by cases e; rfl))
    have hSx6 := (Blk.drew hSx5).keeps hOm (fun e => hmS (by cases e; rfl))
    have hO6 : Only (fun k => k = mb) w w6 := (hO5.drew.of_no).grown hg6 (fun k hk _ => by cases hk; rfl)
    clear hOm hg6 hS5 hS5d hr5 hr5d hG5 hSx5 hX5 hB5 hO5 c1 x3
    clear s0 s1 s2 s3 sf0 sf1 sf2 sf3
    have s0 := hSx6.cell 0
    have s1 := hSx6.cell 1
    have s2 := hSx6.cell 2
    have s3 := hSx6.cell 3
    simp only [List.getElem?_toArray, List.getElem?_cons_succ, List.getElem?_cons_zero] at s0 s1 s2 s3
    go_wp2_with fail
    refine (told_at w6 (Mc.fresh l) ao4 cap4 (by show (0 : Int) ≤ 1; decide) (by show (1 : Int) ≤ 1000; decide) (by show (0 : Int) ≤ 0; decide) (by show (0 : Int) ≤ 1000; decide)).mono ?_
    rintro e w7 ⟨rfl, hO7⟩
    have hG7 := hG6.keeps hO7 (fun h => h)
    have hS7 := hS6.keepsN hO7
    have hO7' := hO6.trans hO7.of_no
    clear hG6 hSx6 hS6 hO6 hO7
    clear s0 s1 s2 s3
    have g0 := hG7.cell 0
    have gf0 := hG7.free 0
    have g1 := hG7.cell 1
    have gf1 := hG7.free 1
    have g2 := hG7.cell 2
    have gf2 := hG7.free 2
    simp only [List.getElem?_toArray, List.getElem?_cons_succ, List.getElem?_cons_zero] at g0 g1 g2
    unfold repV
    go_wp2_with fail
    have hW2 := sets_only (S := fun k => k = G) (g := G) (Only.refl _ w7) (fun _ => rfl) [.int .i64 (Mc.told (Mc.fresh l)).err, .int .u64 (Mc.told (Mc.fresh l)).num, .int .u64 (Mc.told (Mc.fresh l)).extra] 0
    simp only [sets] at hW2
    have hV := rep_ret hG7 (.int .i64 (Mc.told (Mc.fresh l)).err) (.int .u64 (Mc.told (Mc.fresh l)).num) (.int .u64 (Mc.told (Mc.fresh l)).extra) rfl
    refine bodyPost_ret (results_cell_row (P := Try.prog) rfl _ _ G _ _ _ _ rfl hV HFS.out rfl size_rep) rfl ?_
    exact ⟨rfl, by have := hS7.keeps hW2 (fun e => hmG e) (fun k hk => by subst hk; exact fun ht => ht.ne_blk hG7 (by decide) rfl); rw [hn] at this; exact this, only_new hO7' hG0 hW2⟩
set_option maxHeartbeats 4000000 in
theorem mdo_twice (w : World) (p tb mb : Nat) (m : Mc.Mach) (hB : Blk w p #[.pointer (some ⟨tb, 0, none⟩), .map (some mb)] 72) (hS : SgsAt w mb m.sagas m.ids.length) (hk : m.Ok)
    (a b sg now : Nat) (l : List Pk.Stp) (ao : Option Addr) (cap : Nat) (hrow : RowIn stpK 38 w ao l) (hw : sg < 18446744073709551616) (s : Mc.Sg) (hn : m.sagas sg = some s) :
    Calls Try.prog 31 #[.pointer (some ⟨p, 0, none⟩), .agg #[.int .i64 (2 : Nat), .int .u64 a, .int .u64 b, .int .u64 sg, .slice ao l.length cap, .int .i64 (0 : Nat), .bool false, .int .i64 (0 : Nat), .bool false, .int .u64 now]] w fun e w' => e = .returned (repV ⟨42, 0, 0⟩) ∧ Only NoBlock w w' := by
  obtain ⟨fs, hfs⟩ := u_rep
  have HFS := Lib.hid hfs
  clear hfs
  have hlen := hk.len
  go_enter Try.func31, Try.ntmps31
  go_upto_region 1 with fail
  have hX := Blk.made w #[.int .i64 (2 : Nat), .int .u64 a, .int .u64 b, .int .u64 sg, .slice ao l.length cap, .int .i64 (0 : Nat), .bool false, .int .i64 (0 : Nat), .bool false, .int .u64 now] 31
  have hO := (Only.refl NoBlock w).alloc (Obj.cells #[.int .i64 (2 : Nat), .int .u64 a, .int .u64 b, .int .u64 sg, .slice ao l.length cap, .int .i64 (0 : Nat), .bool false, .int .i64 (0 : Nat), .bool false, .int .u64 now] 31)
  have hz : (w.alloc (Obj.cells #[.int .i64 (2 : Nat), .int .u64 a, .int .u64 b, .int .u64 sg, .slice ao l.length cap, .int .i64 (0 : Nat), .bool false, .int .i64 (0 : Nat), .bool false, .int .u64 now] 31)).heap.size = w.heap.size + 1 := by simp
  generalize w.alloc (Obj.cells #[.int .i64 (2 : Nat), .int .u64 a, .int .u64 b, .int .u64 sg, .slice ao l.length cap, .int .i64 (0 : Nat), .bool false, .int .i64 (0 : Nat), .bool false, .int .u64 now] 31) = w1 at hX hO hz ⊢
  rw [← hz]
  have hG := Blk.made w1 #[.int .i64 0, .int .u64 0, .int .u64 0] 34
  have hX2 := hX.alloc (.cells #[.int .i64 0, .int .u64 0, .int .u64 0] 34)
  have hO2 := hO.alloc (.cells #[.int .i64 0, .int .u64 0, .int .u64 0] 34)
  have hG0 : w.heap.size ≤ w1.heap.size := by omega
  have hX0 : w.heap.size ≤ w.heap.size := Nat.le_refl _
  have hml := hS.lt
  generalize w1.alloc (.cells #[.int .i64 0, .int .u64 0, .int .u64 0] 34) = w2 at hG hX2 hO2 ⊢
  generalize w1.heap.size = G at hG hG0 ⊢
  have hGX : w.heap.size ≤ w2.heap.size := hO2.size
  have hmG : mb ≠ G := by omega
  generalize hXe : w.heap.size = X at hX2 ⊢
  have hX0 : w.heap.size ≤ X := by omega
  have hB2 := hB.keeps hO2 (fun h => h)
  have hS2 := hS.keepsN hO2
  have hr2 := hrow.keepsN hO2
  clear hX hO hz hB hS hrow hXe
  have c1 := hB2.cell 1
  have x3 := hX2.cell 3
  simp only [List.getElem?_toArray, List.getElem?_cons_succ, List.getElem?_cons_zero] at c1 x3
  have hAz : Only NoBlock w2 (w2.alloc (Obj.cells #[.slice none 0 0, .int .i64 0, .int .i64 0, .int .i64 0] 63)).drew := ((Only.refl NoBlock w2).alloc _).drew
  have c1A := (hB2.keeps hAz (fun h => h)).cell 1
  have x3A := (hX2.keeps hAz (fun h => h)).cell 3
  simp only [List.getElem?_toArray, List.getElem?_cons_succ, List.getElem?_cons_zero] at c1A x3A
  obtain ⟨aos, caps, hrs, hlks⟩ := hS2.lookAll hn hw
  have hlk := (hlks _ (Only.refl NoBlock w2).drew).1
  have hlkA := (hlks _ hAz).1
  have hAv : Only NoBlock w2 (w2.alloc (Obj.cells #[.slice aos s.steps.length caps, .int .i64 s.state, .int .i64 s.cursor, .int .i64 s.failed] 63)).drew := ((Only.refl NoBlock w2).alloc _).drew
  have c1B := (hB2.keeps hAv (fun h => h)).cell 1
  have x3B := (hX2.keeps hAv (fun h => h)).cell 3
  simp only [List.getElem?_toArray, List.getElem?_cons_succ, List.getElem?_cons_zero] at c1B x3B
  have hlkB := (hlks _ hAv).1
  go_region_held3 (fun w' => w'.cell? ⟨p, 1, none⟩ = some (.map (some mb)) ∧ w'.cell? ⟨X, 3, none⟩ = some (.int .u64 sg) ∧ (Instr.lookup 70 (.map (some mb)) (.int .u64 sg) true).run Try.prog w' = .ok (.tuple #[.agg #[.slice aos s.steps.length caps, .int .i64 s.state, .int .i64 s.cursor, .int .i64 s.failed], .bool true]) w')
    (first | with_reducible exact ⟨c1, x3, hlk⟩ | with_reducible exact ⟨c1A, x3A, hlkA⟩ | with_reducible exact ⟨c1B, x3B, hlkB⟩ | exact ⟨by assumption, by assumption, by assumption⟩ | go_keep)
    (fail)
  all_goals
    clear hlk hlkA c1A x3A hAz c1 x3 hlkB c1B x3B
    have hSx := (Blk.made w2 #[.slice aos s.steps.length caps, .int .i64 s.state, .int .i64 s.cursor, .int .i64 s.failed] 63).drew
    have hA := ((Only.refl NoBlock w2).alloc (Obj.cells #[.slice aos s.steps.length caps, .int .i64 s.state, .int .i64 s.cursor, .int .i64 s.failed] 63)).drew
    have hB3 := hB2.keeps hA (fun h => h)
    have hG3 := hG.keeps hA (fun h => h)
    have hX3 := hX2.keeps hA (fun h => h)
    have hS3 := hS2.keepsN hA
    have hr3 := hr2.keepsN hA
    have hO3 := hO2.trans hA
    have hAs := hA
    have hSx0 : w.heap.size ≤ w2.heap.size := hO2.size
    have hGS : G ≠ w2.heap.size := by have := hG.lt; omega
    have hXS : X ≠ w2.heap.size := by have := hX2.lt; omega
    have hmS : mb ≠ w2.heap.size := by omega
    have hpS : p ≠ w2.heap.size := by have := hB2.lt; omega
    generalize (w2.alloc (Obj.cells #[.slice aos s.steps.length caps, .int .i64 s.state, .int .i64 s.cursor, .int .i64 s.failed] 63)).drew = w3 at hSx hB3 hG3 hX3 hS3 hr3 hO3 hAs ⊢
    generalize w2.heap.size = Sx at hSx hSx0 hGS hXS hmS hpS ⊢
    clear hA hB2 hG hX2 hS2 hr2 hO2 hGX
    have hrs3 := hrs.keepsN (hAs)
    clear hlks hrs hAs hAv
    have x0 := hX3.cell 0
    simp only [List.getElem?_toArray, List.getElem?_cons_zero] at x0
    have g0 := hG3.cell 0
    have gf0 := hG3.free 0
    have g1 := hG3.cell 1
    have gf1 := hG3.free 1
    have g2 := hG3.cell 2
    have gf2 := hG3.free 2
    simp only [List.getElem?_toArray, List.getElem?_cons_succ, List.getElem?_cons_zero] at g0 g1 g2
    go_wp2_with fail
    have hV := rep_ret hG3 (.int .i64 42) (.int .u64 0) (.int .u64 0) rfl
    refine bodyPost_ret (results_cell_row (P := Try.prog) rfl _ _ G _ _ _ _ rfl hV HFS.out rfl size_rep) rfl ?_
    exact ⟨rfl, ((hO3.setCell (p := ⟨G, 0, none⟩) (fun h => by have h' : G < w.heap.size := h; omega) (.int .i64 42)).setCell (p := ⟨G, 1, none⟩) (fun h => by have h' : G < w.heap.size := h; omega) (.int .u64 0)).setCell (p := ⟨G, 2, none⟩) (fun h => by have h' : G < w.heap.size := h; omega) (.int .u64 0)⟩
set_option maxHeartbeats 4000000 in
theorem mdo_query (w : World) (p tb mb : Nat) (m : Mc.Mach) (hB : Blk w p #[.pointer (some ⟨tb, 0, none⟩), .map (some mb)] 72) (hS : SgsAt w mb m.sagas m.ids.length) (hk : m.Ok)
    (a b sg now : Nat) (l : List Pk.Stp) (ao : Option Addr) (cap : Nat) (hrow : RowIn stpK 38 w ao l) (hw : sg < 18446744073709551616) (s : Mc.Sg) (hn : m.sagas sg = some s) :
    Calls Try.prog 31 #[.pointer (some ⟨p, 0, none⟩), .agg #[.int .i64 (5 : Nat), .int .u64 a, .int .u64 b, .int .u64 sg, .slice ao l.length cap, .int .i64 (0 : Nat), .bool false, .int .i64 (0 : Nat), .bool false, .int .u64 now]] w fun e w' => e = .returned (repV (Mc.told s)) ∧ Only NoBlock w w' := by
  obtain ⟨fs, hfs⟩ := u_rep
  have HFS := Lib.hid hfs
  clear hfs
  have hlen := hk.len
  go_enter Try.func31, Try.ntmps31
  go_upto_region 1 with fail
  have hX := Blk.made w #[.int .i64 (5 : Nat), .int .u64 a, .int .u64 b, .int .u64 sg, .slice ao l.length cap, .int .i64 (0 : Nat), .bool false, .int .i64 (0 : Nat), .bool false, .int .u64 now] 31
  have hO := (Only.refl NoBlock w).alloc (Obj.cells #[.int .i64 (5 : Nat), .int .u64 a, .int .u64 b, .int .u64 sg, .slice ao l.length cap, .int .i64 (0 : Nat), .bool false, .int .i64 (0 : Nat), .bool false, .int .u64 now] 31)
  have hz : (w.alloc (Obj.cells #[.int .i64 (5 : Nat), .int .u64 a, .int .u64 b, .int .u64 sg, .slice ao l.length cap, .int .i64 (0 : Nat), .bool false, .int .i64 (0 : Nat), .bool false, .int .u64 now] 31)).heap.size = w.heap.size + 1 := by simp
  generalize w.alloc (Obj.cells #[.int .i64 (5 : Nat), .int .u64 a, .int .u64 b, .int .u64 sg, .slice ao l.length cap, .int .i64 (0 : Nat), .bool false, .int .i64 (0 : Nat), .bool false, .int .u64 now] 31) = w1 at hX hO hz ⊢
  rw [← hz]
  have hG := Blk.made w1 #[.int .i64 0, .int .u64 0, .int .u64 0] 34
  have hX2 := hX.alloc (.cells #[.int .i64 0, .int .u64 0, .int .u64 0] 34)
  have hO2 := hO.alloc (.cells #[.int .i64 0, .int .u64 0, .int .u64 0] 34)
  have hG0 : w.heap.size ≤ w1.heap.size := by omega
  have hX0 : w.heap.size ≤ w.heap.size := Nat.le_refl _
  have hml := hS.lt
  generalize w1.alloc (.cells #[.int .i64 0, .int .u64 0, .int .u64 0] 34) = w2 at hG hX2 hO2 ⊢
  generalize w1.heap.size = G at hG hG0 ⊢
  have hGX : w.heap.size ≤ w2.heap.size := hO2.size
  have hmG : mb ≠ G := by omega
  generalize hXe : w.heap.size = X at hX2 ⊢
  have hX0 : w.heap.size ≤ X := by omega
  have hB2 := hB.keeps hO2 (fun h => h)
  have hS2 := hS.keepsN hO2
  have hr2 := hrow.keepsN hO2
  clear hX hO hz hB hS hrow hXe
  have c1 := hB2.cell 1
  have x3 := hX2.cell 3
  simp only [List.getElem?_toArray, List.getElem?_cons_succ, List.getElem?_cons_zero] at c1 x3
  have hso := Mc.sound_up (hk.sound sg s hn)
  have HSO := Lib.hid hso
  clear hso
  have hAz : Only NoBlock w2 (w2.alloc (Obj.cells #[.slice none 0 0, .int .i64 0, .int .i64 0, .int .i64 0] 63)).drew := ((Only.refl NoBlock w2).alloc _).drew
  have c1A := (hB2.keeps hAz (fun h => h)).cell 1
  have x3A := (hX2.keeps hAz (fun h => h)).cell 3
  simp only [List.getElem?_toArray, List.getElem?_cons_succ, List.getElem?_cons_zero] at c1A x3A
  obtain ⟨aos, caps, hrs, hlks⟩ := hS2.lookAll hn hw
  have hlk := (hlks _ (Only.refl NoBlock w2).drew).1
  have hlkA := (hlks _ hAz).1
  have hAv : Only NoBlock w2 (w2.alloc (Obj.cells #[.slice aos s.steps.length caps, .int .i64 s.state, .int .i64 s.cursor, .int .i64 s.failed] 63)).drew := ((Only.refl NoBlock w2).alloc _).drew
  have c1B := (hB2.keeps hAv (fun h => h)).cell 1
  have x3B := (hX2.keeps hAv (fun h => h)).cell 3
  simp only [List.getElem?_toArray, List.getElem?_cons_succ, List.getElem?_cons_zero] at c1B x3B
  have hlkB := (hlks _ hAv).1
  go_region_held3 (fun w' => w'.cell? ⟨p, 1, none⟩ = some (.map (some mb)) ∧ w'.cell? ⟨X, 3, none⟩ = some (.int .u64 sg) ∧ (Instr.lookup 70 (.map (some mb)) (.int .u64 sg) true).run Try.prog w' = .ok (.tuple #[.agg #[.slice aos s.steps.length caps, .int .i64 s.state, .int .i64 s.cursor, .int .i64 s.failed], .bool true]) w')
    (first | with_reducible exact ⟨c1, x3, hlk⟩ | with_reducible exact ⟨c1A, x3A, hlkA⟩ | with_reducible exact ⟨c1B, x3B, hlkB⟩ | exact ⟨by assumption, by assumption, by assumption⟩ | go_keep)
    (fail)
  all_goals
    clear hlk hlkA c1A x3A hAz c1 x3 hlkB c1B x3B
    have hSx := (Blk.made w2 #[.slice aos s.steps.length caps, .int .i64 s.state, .int .i64 s.cursor, .int .i64 s.failed] 63).drew
    have hA := ((Only.refl NoBlock w2).alloc (Obj.cells #[.slice aos s.steps.length caps, .int .i64 s.state, .int .i64 s.cursor, .int .i64 s.failed] 63)).drew
    have hB3 := hB2.keeps hA (fun h => h)
    have hG3 := hG.keeps hA (fun h => h)
    have hX3 := hX2.keeps hA (fun h => h)
    have hS3 := hS2.keepsN hA
    have hr3 := hr2.keepsN hA
    have hO3 := hO2.trans hA
    have hAs := hA
    have hSx0 : w.heap.size ≤ w2.heap.size := hO2.size
    have hGS : G ≠ w2.heap.size := by have := hG.lt; omega
    have hXS : X ≠ w2.heap.size := by have := hX2.lt; omega
    have hmS : mb ≠ w2.heap.size := by omega
    have hpS : p ≠ w2.heap.size := by have := hB2.lt; omega
    generalize (w2.alloc (Obj.cells #[.slice aos s.steps.length caps, .int .i64 s.state, .int .i64 s.cursor, .int .i64 s.failed] 63)).drew = w3 at hSx hB3 hG3 hX3 hS3 hr3 hO3 hAs ⊢
    generalize w2.heap.size = Sx at hSx hSx0 hGS hXS hmS hpS ⊢
    clear hA hB2 hG hX2 hS2 hr2 hO2 hGX
    have hrs3 := hrs.keepsN (hAs)
    clear hlks hrs hAs hAv
    have x0 := hX3.cell 0
    simp only [List.getElem?_toArray, List.getElem?_cons_zero] at x0
    have s0 := hSx.cell 0
    have s1 := hSx.cell 1
    have s2 := hSx.cell 2
    have s3 := hSx.cell 3
    simp only [List.getElem?_toArray, List.getElem?_cons_succ, List.getElem?_cons_zero] at s0 s1 s2 s3
    go_wp2_with fail
    refine (told_at w3 s aos caps HSO.out.2.1 (by have := HSO.out; omega) HSO.out.2.2.2.1 (by have := HSO.out; omega)).mono ?_
    rintro e w7 ⟨rfl, hO7⟩
    have hG7 := hG3.keeps hO7 (fun h => h)
    have hO7' := hO3.trans hO7
    clear hG3 hSx hX3 hB3 hS3 hr3 hrs3 hO3 hO7
    clear s0 s1 s2 s3
    clear x0
    have g0 := hG7.cell 0
    have gf0 := hG7.free 0
    have g1 := hG7.cell 1
    have gf1 := hG7.free 1
    have g2 := hG7.cell 2
    have gf2 := hG7.free 2
    simp only [List.getElem?_toArray, List.getElem?_cons_succ, List.getElem?_cons_zero] at g0 g1 g2
    unfold repV
    go_wp2_with fail
    have hV := rep_ret hG7 (.int .i64 (Mc.told s).err) (.int .u64 (Mc.told s).num) (.int .u64 (Mc.told s).extra) rfl
    refine bodyPost_ret (results_cell_row (P := Try.prog) rfl _ _ G _ _ _ _ rfl hV HFS.out rfl size_rep) rfl ?_
    exact ⟨rfl, ((hO7'.setCell (p := ⟨G, 0, none⟩) (fun h => by have h' : G < w.heap.size := h; omega) (.int .i64 (Mc.told s).err)).setCell (p := ⟨G, 1, none⟩) (fun h => by have h' : G < w.heap.size := h; omega) (.int .u64 (Mc.told s).num)).setCell (p := ⟨G, 2, none⟩) (fun h => by have h' : G < w.heap.size := h; omega) (.int .u64 (Mc.told s).extra)⟩
set_option maxHeartbeats 4000000 in
theorem mdo_abort (w : World) (p tb mb : Nat) (m : Mc.Mach) (hB : Blk w p #[.pointer (some ⟨tb, 0, none⟩), .map (some mb)] 72) (hS : SgsAt w mb m.sagas m.ids.length) (hk : m.Ok)
    (a b sg now : Nat) (l : List Pk.Stp) (ao : Option Addr) (cap : Nat) (hrow : RowIn stpK 38 w ao l) (hw : sg < 18446744073709551616) (s : Mc.Sg) (hn : m.sagas sg = some s) :
    Calls Try.prog 31 #[.pointer (some ⟨p, 0, none⟩), .agg #[.int .i64 (3 : Nat), .int .u64 a, .int .u64 b, .int .u64 sg, .slice ao l.length cap, .int .i64 (0 : Nat), .bool false, .int .i64 (0 : Nat), .bool false, .int .u64 now]] w fun e w' => e = .returned (repV (Mc.told (Mc.abort s).1)) ∧ SgsAt w' mb (Mc.put m.sagas sg (Mc.abort s).1) m.ids.length ∧ Only (fun k => k = mb) w w' := by
  obtain ⟨fs, hfs⟩ := u_rep
  have HFS := Lib.hid hfs
  clear hfs
  have hlen := hk.len
  go_enter Try.func31, Try.ntmps31
  go_upto_region 1 with fail
  have hX := Blk.made w #[.int .i64 (3 : Nat), .int .u64 a, .int .u64 b, .int .u64 sg, .slice ao l.length cap, .int .i64 (0 : Nat), .bool false, .int .i64 (0 : Nat), .bool false, .int .u64 now] 31
  have hO := (Only.refl NoBlock w).alloc (Obj.cells #[.int .i64 (3 : Nat), .int .u64 a, .int .u64 b, .int .u64 sg, .slice ao l.length cap, .int .i64 (0 : Nat), .bool false, .int .i64 (0 : Nat), .bool false, .int .u64 now] 31)
  have hz : (w.alloc (Obj.cells #[.int .i64 (3 : Nat), .int .u64 a, .int .u64 b, .int .u64 sg, .slice ao l.length cap, .int .i64 (0 : Nat), .bool false, .int .i64 (0 : Nat), .bool false, .int .u64 now] 31)).heap.size = w.heap.size + 1 := by simp
  generalize w.alloc (Obj.cells #[.int .i64 (3 : Nat), .int .u64 a, .int .u64 b, .int .u64 sg, .slice ao l.length cap, .int .i64 (0 : Nat), .bool false, .int .i64 (0 : Nat), .bool false, .int .u64 now] 31) = w1 at hX hO hz ⊢
  rw [← hz]
  have hG := Blk.made w1 #[.int .i64 0, .int .u64 0, .int .u64 0] 34
  have hX2 := hX.alloc (.cells #[.int .i64 0, .int .u64 0, .int .u64 0] 34)
  have hO2 := hO.alloc (.cells #[.int .i64 0, .int .u64 0, .int .u64 0] 34)
  have hG0 : w.heap.size ≤ w1.heap.size := by omega
  have hX0 : w.heap.size ≤ w.heap.size := Nat.le_refl _
  have hml := hS.lt
  generalize w1.alloc (.cells #[.int .i64 0, .int .u64 0, .int .u64 0] 34) = w2 at hG hX2 hO2 ⊢
  generalize w1.heap.size = G at hG hG0 ⊢
  have hGX : w.heap.size ≤ w2.heap.size := hO2.size
  have hmG : mb ≠ G := by omega
  generalize hXe : w.heap.size = X at hX2 ⊢
  have hX0 : w.heap.size ≤ X := by omega
  have hB2 := hB.keeps hO2 (fun h => h)
  have hS2 := hS.keepsN hO2
  have hr2 := hrow.keepsN hO2
  clear hX hO hz hB hS hrow hXe
  have c1 := hB2.cell 1
  have x3 := hX2.cell 3
  simp only [List.getElem?_toArray, List.getElem?_cons_succ, List.getElem?_cons_zero] at c1 x3
  have HSO := Lib.hid (hk.sound sg s hn)
  have HSP := Lib.hid (Mc.sound_up (hk.sound sg s hn))
  have hsm := okSs_small (Mc.sound_up (hk.sound sg s hn)).1
  have hAz : Only NoBlock w2 (w2.alloc (Obj.cells #[.slice none 0 0, .int .i64 0, .int .i64 0, .int .i64 0] 63)).drew := ((Only.refl NoBlock w2).alloc _).drew
  have c1A := (hB2.keeps hAz (fun h => h)).cell 1
  have x3A := (hX2.keeps hAz (fun h => h)).cell 3
  simp only [List.getElem?_toArray, List.getElem?_cons_succ, List.getElem?_cons_zero] at c1A x3A
  obtain ⟨aos, caps, hrs, hlks⟩ := hS2.lookAll hn hw
  have hlk := (hlks _ (Only.refl NoBlock w2).drew).1
  have hlkA := (hlks _ hAz).1
  have hAv : Only NoBlock w2 (w2.alloc (Obj.cells #[.slice aos s.steps.length caps, .int .i64 s.state, .int .i64 s.cursor, .int .i64 s.failed] 63)).drew := ((Only.refl NoBlock w2).alloc _).drew
  have c1B := (hB2.keeps hAv (fun h => h)).cell 1
  have x3B := (hX2.keeps hAv (fun h => h)).cell 3
  simp only [List.getElem?_toArray, List.getElem?_cons_succ, List.getElem?_cons_zero] at c1B x3B
  have hlkB := (hlks _ hAv).1
  go_region_held3 (fun w' => w'.cell? ⟨p, 1, none⟩ = some (.map (some mb)) ∧ w'.cell? ⟨X, 3, none⟩ = some (.int .u64 sg) ∧ (Instr.lookup 70 (.map (some mb)) (.int .u64 sg) true).run Try.prog w' = .ok (.tuple #[.agg #[.slice aos s.steps.length caps, .int .i64 s.state, .int .i64 s.cursor, .int .i64 s.failed], .bool true]) w')
    (first | with_reducible exact ⟨c1, x3, hlk⟩ | with_reducible exact ⟨c1A, x3A, hlkA⟩ | with_reducible exact ⟨c1B, x3B, hlkB⟩ | exact ⟨by assumption, by assumption, by assumption⟩ | go_keep)
    (fail)
  all_goals
    clear hlk hlkA c1A x3A hAz c1 x3 hlkB c1B x3B
    have hSx := (Blk.made w2 #[.slice aos s.steps.length caps, .int .i64 s.state, .int .i64 s.cursor, .int .i64 s.failed] 63).drew
    have hA := ((Only.refl NoBlock w2).alloc (Obj.cells #[.slice aos s.steps.length caps, .int .i64 s.state, .int .i64 s.cursor, .int .i64 s.failed] 63)).drew
    have hB3 := hB2.keeps hA (fun h => h)
    have hG3 := hG.keeps hA (fun h => h)
    have hX3 := hX2.keeps hA (fun h => h)
    have hS3 := hS2.keepsN hA
    have hr3 := hr2.keepsN hA
    have hO3 := hO2.trans hA
    have hAs := hA
    have hSx0 : w.heap.size ≤ w2.heap.size := hO2.size
    have hGS : G ≠ w2.heap.size := by have := hG.lt; omega
    have hXS : X ≠ w2.heap.size := by have := hX2.lt; omega
    have hmS : mb ≠ w2.heap.size := by omega
    have hpS : p ≠ w2.heap.size := by have := hB2.lt; omega
    generalize (w2.alloc (Obj.cells #[.slice aos s.steps.length caps, .int .i64 s.state, .int .i64 s.cursor, .int .i64 s.failed] 63)).drew = w3 at hSx hB3 hG3 hX3 hS3 hr3 hO3 hAs ⊢
    generalize w2.heap.size = Sx at hSx hSx0 hGS hXS hmS hpS ⊢
    clear hA hB2 hG hX2 hS2 hr2 hO2 hGX
    have hrs3 := hrs.keepsN (hAs)
    clear hlks hrs hAs hAv
    have x0 := hX3.cell 0
    simp only [List.getElem?_toArray, List.getElem?_cons_zero] at x0
    have s0 := hSx.cell 0
    have sf0 := hSx.free 0
    have s1 := hSx.cell 1
    have sf1 := hSx.free 1
    have s2 := hSx.cell 2
    have sf2 := hSx.free 2
    have s3 := hSx.cell 3
    have sf3 := hSx.free 3
    simp only [List.getElem?_toArray, List.getElem?_cons_succ, List.getElem?_cons_zero] at s0 s1 s2 s3
    go_wp2_with fail
    refine (abort_at w3 s aos caps hsm hrs3).mono ?_
    rintro e w4 ⟨rfl, hO4⟩
    have hab := Mc.sound_up (Mc.abort_sound HSO.out)
    have hst : (Mc.abort s).1.steps = s.steps := abort_steps s
    generalize hsa : (Mc.abort s).1 = sa at hab hst ⊢
    have HAB := Lib.hid hab
    have HST := Lib.hid hst
    have HSA := Lib.hid hsa
    clear hsa hab hst
    have hB4 := hB3.keeps hO4 (fun h => h)
    have hG4 := hG3.keeps hO4 (fun h => h)
    have hX4 := hX3.keeps hO4 (fun h => h)
    have hS4 := hS3.keepsN hO4
    have hSx4 := hSx.keeps hO4 (fun h => h)
    have hO4' := hO3.trans hO4
    have hr4 : RowIn stpK 38 w4 aos sa.steps := by rw [HST.out]; exact hrs3.keepsN hO4
    clear hB3 hG3 hX3 hS3 hSx hO3 hr3 hrs3 hO4
    clear x0
    clear s0 s1 s2 s3 sf0 sf1 sf2 sf3
    have s0 := hSx4.cell 0
    have sf0 := hSx4.free 0
    have s1 := hSx4.cell 1
    have sf1 := hSx4.free 1
    have s2 := hSx4.cell 2
    have sf2 := hSx4.free 2
    have s3 := hSx4.cell 3
    have sf3 := hSx4.free 3
    simp only [List.getElem?_toArray, List.getElem?_cons_succ, List.getElem?_cons_zero] at s0 s1 s2 s3
    have hl0 : 0 < sa.steps.length := (Mc.okSs_pos HAB.out.1).1
    unfold sgV
    go_upto_region 16 with fail
    have hZ := sets_only (S := fun k => k = Sx) (g := Sx) (Only.refl _ w4) (fun _ => rfl) [.slice aos sa.steps.length caps, .int .i64 sa.state, .int .i64 sa.cursor, .int .i64 sa.failed] 0
    have hSx5 := sets_blk hSx4 [.slice aos sa.steps.length caps, .int .i64 sa.state, .int .i64 sa.cursor, .int .i64 sa.failed] rfl
    have hO5 := sets_only (g := Sx) hO4' (fun h => by omega) [.slice aos sa.steps.length caps, .int .i64 sa.state, .int .i64 sa.cursor, .int .i64 sa.failed] 0
    simp only [sets] at hZ hSx5 hO5
    have hB5 := hB4.keeps hZ (fun e => hpS e)
    have hG5 := hG4.keeps hZ (fun e => hGS e)
    have hX5 := hX4.keeps hZ (fun e => hXS e)
    have hS5 := hS4.keeps hZ (fun e => hmS e) (fun k hk => by subst hk; exact fun ht => ht.ne_blk hSx4 (by decide) rfl)
    have hr5 := hr4.keepsT hZ (fun k hk => by subst hk; exact fun ht => ht.ne_blk hSx4 (by decide) rfl)
    generalize ((((w4.setCell ⟨Sx, 0, none⟩ (.slice aos sa.steps.length caps)).setCell ⟨Sx, 0 + 1, none⟩ (.int .i64 sa.state)).setCell ⟨Sx, 0 + 1 + 1, none⟩ (.int .i64 sa.cursor)).setCell ⟨Sx, 0 + 1 + 1 + 1, none⟩ (.int .i64 sa.failed)) = w5 at hSx5 hO5 hB5 hG5 hX5 hS5 hr5 ⊢
    clear hZ hB4 hG4 hX4 hS4 hSx4 hO4' hr4
    clear s0 s1 s2 s3 sf0 sf1 sf2 sf3
    have s0 := hSx5.cell 0
    have sf0 := hSx5.free 0
    have s1 := hSx5.cell 1
    have sf1 := hSx5.free 1
    have s2 := hSx5.cell 2
    have sf2 := hSx5.free 2
    have s3 := hSx5.cell 3
    have sf3 := hSx5.free 3
    simp only [List.getElem?_toArray, List.getElem?_cons_succ, List.getElem?_cons_zero] at s0 s1 s2 s3
    have c1 := hB5.cell 1
    have x3 := hX5.cell 3
    simp only [List.getElem?_toArray, List.getElem?_cons_succ, List.getElem?_cons_zero] at c1 x3
    refine wp_region_tail 7 (by kernel_rfl) (by kernel_rfl) ?_
    simp only [List.take_succ_cons, List.take_zero, List.drop_succ_cons, List.drop_zero]
    repeat still_step
    try refine wpStill_nil ?_
    have hS5d := hS5.keepsN ((Only.refl NoBlock w5).drew)
    have hr5d := hr5.keepsN ((Only.refl NoBlock w5).drew)
    go_upto_region 17 with (first | (at_mapUpdate; refine wpList_sgstore rfl _ _ _ rfl hS5d (by omega) rfl sg rfl hw sa aos caps rfl hr5d hl0 ?_; intro w6 hS6 hg6))
    have hOm := Only.of_grown hg6
    have hG6 := (Blk.drew hG5).keeps hOm (fun e => hmG (by cases e; rfl))
    have hSx6 := (Blk.drew hSx5).keeps hOm (fun e => hmS (by cases e; rfl))
    have hO6 : Only (fun k => k = mb) w w6 := (hO5.drew.of_no).grown hg6 (fun k hk _ => by cases hk; rfl)
    clear hOm hg6 hS5 hS5d hr5 hr5d hG5 hSx5 hX5 hB5 hO5 c1 x3
    clear s0 s1 s2 s3 sf0 sf1 sf2 sf3
    have s0 := hSx6.cell 0
    have s1 := hSx6.cell 1
    have s2 := hSx6.cell 2
    have s3 := hSx6.cell 3
    simp only [List.getElem?_toArray, List.getElem?_cons_succ, List.getElem?_cons_zero] at s0 s1 s2 s3
    go_wp2_with fail
    refine (told_at w6 sa aos caps HAB.out.2.1 (by have := HAB.out; omega) HAB.out.2.2.2.1 (by have := HAB.out; omega)).mono ?_
    rintro e w7 ⟨rfl, hO7⟩
    have hG7 := hG6.keeps hO7 (fun h => h)
    have hS7 := hS6.keepsN hO7
    have hO7' := hO6.trans hO7.of_no
    clear hG6 hSx6 hS6 hO6 hO7
    clear s0 s1 s2 s3
    have g0 := hG7.cell 0
    have gf0 := hG7.free 0
    have g1 := hG7.cell 1
    have gf1 := hG7.free 1
    have g2 := hG7.cell 2
    have gf2 := hG7.free 2
    simp only [List.getElem?_toArray, List.getElem?_cons_succ, List.getElem?_cons_zero] at g0 g1 g2
    unfold repV
    go_wp2_with fail
    have hW2 := sets_only (S := fun k => k = G) (g := G) (Only.refl _ w7) (fun _ => rfl) [.int .i64 (Mc.told sa).err, .int .u64 (Mc.told sa).num, .int .u64 (Mc.told sa).extra] 0
    simp only [sets] at hW2
    have hV := rep_ret hG7 (.int .i64 (Mc.told sa).err) (.int .u64 (Mc.told sa).num) (.int .u64 (Mc.told sa).extra) rfl
    refine bodyPost_ret (results_cell_row (P := Try.prog) rfl _ _ G _ _ _ _ rfl hV HFS.out rfl size_rep) rfl ?_
    rw [HSA.out]
    exact ⟨rfl, by have := hS7.keeps hW2 (fun e => hmG e) (fun k hk => by subst hk; exact fun ht => ht.ne_blk hG7 (by decide) rfl); rw [hn] at this; exact this, only_new hO7' hG0 hW2⟩
end Go.Proofs.Ytogeeeigfhmpmaa

/- machine.Machine's do, whatever the command. -/
namespace Go.Proofs.Ytogeeeigfhmpmaa
open Go.RowKit
set_option maxRecDepth 100000

theorem may_shape {c : Pk.Cmd} (h : Pk.may c = true) (hk : c.kind ≠ 4) : c.step = 0 ∧ c.back = false ∧ c.try_ = 0 ∧ c.ok = false ∧ (c.kind ≠ 2 → c.steps = []) ∧ (c.kind = 2 → Pk.okSs c.steps = true) := by
  obtain ⟨k, a, b, s, l, st, bk, tr, ok, now⟩ := c
  simp only at hk
  unfold Pk.may Pk.bare at h
  simp only at h
  by_cases h1 : k = 1 ∨ k = 3 ∨ k = 5
  · rw [if_pos h1] at h
    simp at h
    obtain ⟨e0, ⟨⟨⟨r1, r2⟩, r3⟩, r4⟩⟩ := h
    exact ⟨r1, r2, r3, r4, fun _ => e0, fun e => by simp only at e; omega⟩
  · rw [if_neg h1] at h
    by_cases h2 : k = 2
    · rw [if_pos h2] at h
      simp at h
      obtain ⟨e0, ⟨⟨⟨r1, r2⟩, r3⟩, r4⟩⟩ := h
      exact ⟨r1, r2, r3, r4, fun e => absurd h2 e, fun _ => e0⟩
    · rw [if_neg h2, if_neg hk] at h
      cases h
theorem may_kinds {c : Pk.Cmd} (h : Pk.may c = true) : c.kind = 1 ∨ c.kind = 2 ∨ c.kind = 3 ∨ c.kind = 4 ∨ c.kind = 5 := by
  by_cases h1 : c.kind = 1 ∨ c.kind = 3 ∨ c.kind = 5
  · omega
  · by_cases h2 : c.kind = 2
    · omega
    · by_cases h4 : c.kind = 4
      · omega
      · unfold Pk.may at h
        rw [if_neg h1, if_neg h2, if_neg h4] at h
        cases h
theorem mdo_at (w : World) (p tb mb : Nat) (m : Mc.Mach) (hB : Blk w p #[.pointer (some ⟨tb, 0, none⟩), .map (some mb)] 72) (hS : SgsAt w mb m.sagas m.ids.length) (hk : m.Ok)
    (c : Pk.Cmd) (ao : Option Addr) (cap : Nat) (hrow : RowIn stpK 38 w ao c.steps) (hm : Pk.may c = true) (hw : c.Wf) (h1 : c.kind ≠ 1) (h4 : c.kind ≠ 4) :
    Calls Try.prog 31 #[.pointer (some ⟨p, 0, none⟩), cmdV c ao cap] w fun e w' => e = .returned (repV (m.do_ c).2) ∧ SgsAt w' mb (m.do_ c).1.sagas (m.do_ c).1.ids.length ∧ Only (fun k => k = mb) w w' := by
  have hks := may_kinds hm
  obtain ⟨e1, e2, e3, e4, e5, e6⟩ := may_shape hm h4
  have hws := hw.saga
  obtain ⟨k, a, b, sg, l, st, bk, tr, ok, now⟩ := c
  simp only at e1 e2 e3 e4 e5 e6 hks h1 h4 hrow hws
  subst e1 e2 e3 e4
  have keep : ∀ {w' : World}, Only NoBlock w w' → SgsAt w' mb m.sagas m.ids.length ∧ Only (fun k => k = mb) w w' := fun ho => ⟨hS.keepsN ho, ho.of_no⟩
  by_cases h2 : k = 2
  · subst h2
    have hok := e6 rfl
    cases hn : m.sagas sg with
    | some s =>
      have e : m.do_ ⟨2, a, b, sg, l, 0, false, 0, false, now⟩ = (m, ⟨42, 0, 0⟩) := by unfold Mc.Mach.do_; rw [if_pos rfl]; simp only [hn]
      rw [e]
      exact (mdo_twice w p tb mb m hB hS hk a b sg now l ao cap hrow hws s hn).mono (fun _ _ h => ⟨h.1, keep h.2⟩)
    | none =>
      by_cases hf : 16 ≤ m.ids.length
      · have e : m.do_ ⟨2, a, b, sg, l, 0, false, 0, false, now⟩ = (m, ⟨11, 0, 0⟩) := by unfold Mc.Mach.do_; rw [if_pos rfl]; simp only [hn]; rw [if_pos hf]
        rw [e]
        exact (mdo_full w p tb mb m hB hS hk a b sg now l ao cap hrow hws hn hf).mono (fun _ _ h => ⟨h.1, keep h.2⟩)
      · have e : m.do_ ⟨2, a, b, sg, l, 0, false, 0, false, now⟩ = (⟨m.tab, Mc.insert m.ids sg, Mc.put m.sagas sg (Mc.fresh l)⟩, Mc.told (Mc.fresh l)) := by unfold Mc.Mach.do_; rw [if_pos rfl]; simp only [hn]; rw [if_neg hf]
        rw [e]
        refine (mdo_new w p tb mb m hB hS hk a b sg now l ao cap hrow hws hn hf hok).mono (fun _ _ h => ⟨h.1, ?_, h.2.2⟩)
        simp only [Mc.insert_length]
        exact h.2.1
  · obtain rfl := e5 h2
    by_cases h3 : k = 3
    · subst h3
      cases hn : m.sagas sg with
      | none =>
        have e : m.do_ ⟨3, a, b, sg, [], 0, false, 0, false, now⟩ = (m, ⟨43, 0, 0⟩) := by unfold Mc.Mach.do_; rw [if_neg (by simp), if_pos rfl]; simp only [hn]
        rw [e]
        exact (mdo_none3 w p tb mb m hB hS hk a b sg now [] ao cap hrow hws hn).mono (fun _ _ h => ⟨h.1, keep h.2⟩)
      | some s =>
        have e : m.do_ ⟨3, a, b, sg, [], 0, false, 0, false, now⟩ = (⟨m.tab, m.ids, Mc.put m.sagas sg (Mc.abort s).1⟩, Mc.told (Mc.abort s).1) := by unfold Mc.Mach.do_; rw [if_neg (by simp), if_pos rfl]; simp only [hn]
        rw [e]
        exact mdo_abort w p tb mb m hB hS hk a b sg now [] ao cap hrow hws s hn
    · obtain rfl : k = 5 := by omega
      cases hn : m.sagas sg with
      | none =>
        have e : m.do_ ⟨5, a, b, sg, [], 0, false, 0, false, now⟩ = (m, ⟨43, 0, 0⟩) := by unfold Mc.Mach.do_; rw [if_neg (by simp), if_neg (by simp)]; simp only [hn]
        rw [e]
        exact (mdo_none5 w p tb mb m hB hS hk a b sg now [] ao cap hrow hws hn).mono (fun _ _ h => ⟨h.1, keep h.2⟩)
      | some s =>
        have e : m.do_ ⟨5, a, b, sg, [], 0, false, 0, false, now⟩ = (m, Mc.told s) := by unfold Mc.Mach.do_; rw [if_neg (by simp), if_neg (by simp)]; simp only [hn]
        rw [e]
        exact (mdo_query w p tb mb m hB hS hk a b sg now [] ao cap hrow hws s hn).mono (fun _ _ h => ⟨h.1, keep h.2⟩)
end Go.Proofs.Ytogeeeigfhmpmaa

/- machine.Machine's outcome: of a step. -/
namespace Go.Proofs.Ytogeeeigfhmpmaa
open Go.RowKit
set_option maxRecDepth 100000

theorem outcome_steps (s : Mc.Sg) (step : Int) (taken : Bool) (tr : Int) (ok : Bool) : (Mc.outcome s step taken tr ok).1.steps = s.steps := by
  unfold Mc.outcome Mc.backTo
  split
  · split
    · split <;> rfl
    · split
      · dsimp only
        split <;> rfl
      · rfl
  · rfl
set_option maxHeartbeats 4000000 in
theorem mout_none (w : World) (p tb mb : Nat) (m : Mc.Mach) (hB : Blk w p #[.pointer (some ⟨tb, 0, none⟩), .map (some mb)] 72) (hS : SgsAt w mb m.sagas m.ids.length) (hk : m.Ok)
    (a b sg now : Nat) (l : List Pk.Stp) (ao : Option Addr) (cap : Nat) (st : Nat) (bk : Bool) (tr : Nat) (ok : Bool) (_hst : st ≤ 64) (hrow : RowIn stpK 38 w ao l) (hw : sg < 18446744073709551616) (hn : m.sagas sg = none) :
    Calls Try.prog 29 #[.pointer (some ⟨p, 0, none⟩), .agg #[.int .i64 (4 : Nat), .int .u64 a, .int .u64 b, .int .u64 sg, .slice ao l.length cap, .int .i64 (st : Int), .bool bk, .int .i64 (tr : Int), .bool ok, .int .u64 now]] w fun e w' => e = .returned (repV ⟨43, 0, 0⟩) ∧ Only NoBlock w w' := by
  obtain ⟨fs, hfs⟩ := u_rep
  have HFS := Lib.hid hfs
  clear hfs
  have hlen := hk.len
  go_enter Try.func29, Try.ntmps29
  go_upto_region 1 with fail
  have hX := Blk.made w #[.int .i64 (4 : Nat), .int .u64 a, .int .u64 b, .int .u64 sg, .slice ao l.length cap, .int .i64 (st : Int), .bool bk, .int .i64 (tr : Int), .bool ok, .int .u64 now] 31
  have hO := (Only.refl NoBlock w).alloc (Obj.cells #[.int .i64 (4 : Nat), .int .u64 a, .int .u64 b, .int .u64 sg, .slice ao l.length cap, .int .i64 (st : Int), .bool bk, .int .i64 (tr : Int), .bool ok, .int .u64 now] 31)
  have hz : (w.alloc (Obj.cells #[.int .i64 (4 : Nat), .int .u64 a, .int .u64 b, .int .u64 sg, .slice ao l.length cap, .int .i64 (st : Int), .bool bk, .int .i64 (tr : Int), .bool ok, .int .u64 now] 31)).heap.size = w.heap.size + 1 := by simp
  generalize w.alloc (Obj.cells #[.int .i64 (4 : Nat), .int .u64 a, .int .u64 b, .int .u64 sg, .slice ao l.length cap, .int .i64 (st : Int), .bool bk, .int .i64 (tr : Int), .bool ok, .int .u64 now] 31) = w1 at hX hO hz ⊢
  rw [← hz]
  have hG := Blk.made w1 #[.int .i64 0, .int .u64 0, .int .u64 0] 34
  have hX2 := hX.alloc (.cells #[.int .i64 0, .int .u64 0, .int .u64 0] 34)
  have hO2 := hO.alloc (.cells #[.int .i64 0, .int .u64 0, .int .u64 0] 34)
  have hG0 : w.heap.size ≤ w1.heap.size := by omega
  have hX0 : w.heap.size ≤ w.heap.size := Nat.le_refl _
  have hml := hS.lt
  generalize w1.alloc (.cells #[.int .i64 0, .int .u64 0, .int .u64 0] 34) = w2 at hG hX2 hO2 ⊢
  generalize w1.heap.size = G at hG hG0 ⊢
  have hGX : w.heap.size ≤ w2.heap.size := hO2.size
  have hmG : mb ≠ G := by omega
  generalize hXe : w.heap.size = X at hX2 ⊢
  have hX0 : w.heap.size ≤ X := by omega
  have hB2 := hB.keeps hO2 (fun h => h)
  have hS2 := hS.keepsN hO2
  have hr2 := hrow.keepsN hO2
  clear hX hO hz hB hS hrow hXe
  have c1 := hB2.cell 1
  have x3 := hX2.cell 3
  simp only [List.getElem?_toArray, List.getElem?_cons_succ, List.getElem?_cons_zero] at c1 x3
  have hAz : Only NoBlock w2 (w2.alloc (Obj.cells #[.slice none 0 0, .int .i64 0, .int .i64 0, .int .i64 0] 63)).drew := ((Only.refl NoBlock w2).alloc _).drew
  have c1A := (hB2.keeps hAz (fun h => h)).cell 1
  have x3A := (hX2.keeps hAz (fun h => h)).cell 3
  simp only [List.getElem?_toArray, List.getElem?_cons_succ, List.getElem?_cons_zero] at c1A x3A
  have hlk := (hS2.keepsN ((Only.refl NoBlock w2).drew)).lookNo hn hw
  have hlkA := (hS2.keepsN hAz).lookNo hn hw
  have c1B := c1A
  have x3B := x3A
  have hlkB := hlkA
  go_region_held3 (fun w' => w'.cell? ⟨p, 1, none⟩ = some (.map (some mb)) ∧ w'.cell? ⟨X, 3, none⟩ = some (.int .u64 sg) ∧ (Instr.lookup 70 (.map (some mb)) (.int .u64 sg) true).run Try.prog w' = .ok (.tuple #[.agg #[.slice none 0 0, .int .i64 0, .int .i64 0, .int .i64 0], .bool false]) w')
    (first | with_reducible exact ⟨c1, x3, hlk⟩ | with_reducible exact ⟨c1A, x3A, hlkA⟩ | with_reducible exact ⟨c1B, x3B, hlkB⟩ | exact ⟨by assumption, by assumption, by assumption⟩ | go_keep)
    (fail)
  all_goals
    clear hlk hlkA c1A x3A hAz c1 x3 hlkB c1B x3B
    have hSx := (Blk.made w2 #[.slice none 0 0, .int .i64 0, .int .i64 0, .int .i64 0] 63).drew
    have hA := ((Only.refl NoBlock w2).alloc (Obj.cells #[.slice none 0 0, .int .i64 0, .int .i64 0, .int .i64 0] 63)).drew
    have hB3 := hB2.keeps hA (fun h => h)
    have hG3 := hG.keeps hA (fun h => h)
    have hX3 := hX2.keeps hA (fun h => h)
    have hS3 := hS2.keepsN hA
    have hr3 := hr2.keepsN hA
    have hO3 := hO2.trans hA
    have hAs := hA
    have hSx0 : w.heap.size ≤ w2.heap.size := hO2.size
    have hGS : G ≠ w2.heap.size := by have := hG.lt; omega
    have hXS : X ≠ w2.heap.size := by have := hX2.lt; omega
    have hmS : mb ≠ w2.heap.size := by omega
    have hpS : p ≠ w2.heap.size := by have := hB2.lt; omega
    generalize (w2.alloc (Obj.cells #[.slice none 0 0, .int .i64 0, .int .i64 0, .int .i64 0] 63)).drew = w3 at hSx hB3 hG3 hX3 hS3 hr3 hO3 hAs ⊢
    generalize w2.heap.size = Sx at hSx hSx0 hGS hXS hmS hpS ⊢
    clear hA hB2 hG hX2 hS2 hr2 hO2 hGX
    have g0 := hG3.cell 0
    have gf0 := hG3.free 0
    have g1 := hG3.cell 1
    have gf1 := hG3.free 1
    have g2 := hG3.cell 2
    have gf2 := hG3.free 2
    simp only [List.getElem?_toArray, List.getElem?_cons_succ, List.getElem?_cons_zero] at g0 g1 g2
    go_wp2_with fail
    have hV := rep_ret hG3 (.int .i64 43) (.int .u64 0) (.int .u64 0) rfl
    refine bodyPost_ret (results_cell_row (P := Try.prog) rfl _ _ G _ _ _ _ rfl hV HFS.out rfl size_rep) rfl ?_
    exact ⟨rfl, ((hO3.setCell (p := ⟨G, 0, none⟩) (fun h => by have h' : G < w.heap.size := h; omega) (.int .i64 43)).setCell (p := ⟨G, 1, none⟩) (fun h => by have h' : G < w.heap.size := h; omega) (.int .u64 0)).setCell (p := ⟨G, 2, none⟩) (fun h => by have h' : G < w.heap.size := h; omega) (.int .u64 0)⟩
set_option maxHeartbeats 4000000 in
theorem mout_stale (w : World) (p tb mb : Nat) (m : Mc.Mach) (hB : Blk w p #[.pointer (some ⟨tb, 0, none⟩), .map (some mb)] 72) (hS : SgsAt w mb m.sagas m.ids.length) (hk : m.Ok)
    (a b sg now : Nat) (l : List Pk.Stp) (ao : Option Addr) (cap : Nat) (st : Nat) (bk : Bool) (tr : Nat) (ok : Bool) (hst : st ≤ 64) (hrow : RowIn stpK 38 w ao l) (hw : sg < 18446744073709551616) (s : Mc.Sg) (hn : m.sagas sg = some s) (hc : (Mc.outcome s st bk tr ok).2 = false) :
    Calls Try.prog 29 #[.pointer (some ⟨p, 0, none⟩), .agg #[.int .i64 (4 : Nat), .int .u64 a, .int .u64 b, .int .u64 sg, .slice ao l.length cap, .int .i64 (st : Int), .bool bk, .int .i64 (tr : Int), .bool ok, .int .u64 now]] w fun e w' => e = .returned (repV ⟨41, 0, 0⟩) ∧ Only NoBlock w w' := by
  obtain ⟨fs, hfs⟩ := u_rep
  have HFS := Lib.hid hfs
  clear hfs
  have hlen := hk.len
  go_enter Try.func29, Try.ntmps29
  go_upto_region 1 with fail
  have hX := Blk.made w #[.int .i64 (4 : Nat), .int .u64 a, .int .u64 b, .int .u64 sg, .slice ao l.length cap, .int .i64 (st : Int), .bool bk, .int .i64 (tr : Int), .bool ok, .int .u64 now] 31
  have hO := (Only.refl NoBlock w).alloc (Obj.cells #[.int .i64 (4 : Nat), .int .u64 a, .int .u64 b, .int .u64 sg, .slice ao l.length cap, .int .i64 (st : Int), .bool bk, .int .i64 (tr : Int), .bool ok, .int .u64 now] 31)
  have hz : (w.alloc (Obj.cells #[.int .i64 (4 : Nat), .int .u64 a, .int .u64 b, .int .u64 sg, .slice ao l.length cap, .int .i64 (st : Int), .bool bk, .int .i64 (tr : Int), .bool ok, .int .u64 now] 31)).heap.size = w.heap.size + 1 := by simp
  generalize w.alloc (Obj.cells #[.int .i64 (4 : Nat), .int .u64 a, .int .u64 b, .int .u64 sg, .slice ao l.length cap, .int .i64 (st : Int), .bool bk, .int .i64 (tr : Int), .bool ok, .int .u64 now] 31) = w1 at hX hO hz ⊢
  rw [← hz]
  have hG := Blk.made w1 #[.int .i64 0, .int .u64 0, .int .u64 0] 34
  have hX2 := hX.alloc (.cells #[.int .i64 0, .int .u64 0, .int .u64 0] 34)
  have hO2 := hO.alloc (.cells #[.int .i64 0, .int .u64 0, .int .u64 0] 34)
  have hG0 : w.heap.size ≤ w1.heap.size := by omega
  have hX0 : w.heap.size ≤ w.heap.size := Nat.le_refl _
  have hml := hS.lt
  generalize w1.alloc (.cells #[.int .i64 0, .int .u64 0, .int .u64 0] 34) = w2 at hG hX2 hO2 ⊢
  generalize w1.heap.size = G at hG hG0 ⊢
  have hGX : w.heap.size ≤ w2.heap.size := hO2.size
  have hmG : mb ≠ G := by omega
  generalize hXe : w.heap.size = X at hX2 ⊢
  have hX0 : w.heap.size ≤ X := by omega
  have hB2 := hB.keeps hO2 (fun h => h)
  have hS2 := hS.keepsN hO2
  have hr2 := hrow.keepsN hO2
  clear hX hO hz hB hS hrow hXe
  have c1 := hB2.cell 1
  have x3 := hX2.cell 3
  simp only [List.getElem?_toArray, List.getElem?_cons_succ, List.getElem?_cons_zero] at c1 x3
  have HC := Lib.hid hc
  clear hc
  have hsm := okSs_small (Mc.sound_up (hk.sound sg s hn)).1
  have hAz : Only NoBlock w2 (w2.alloc (Obj.cells #[.slice none 0 0, .int .i64 0, .int .i64 0, .int .i64 0] 63)).drew := ((Only.refl NoBlock w2).alloc _).drew
  have c1A := (hB2.keeps hAz (fun h => h)).cell 1
  have x3A := (hX2.keeps hAz (fun h => h)).cell 3
  simp only [List.getElem?_toArray, List.getElem?_cons_succ, List.getElem?_cons_zero] at c1A x3A
  obtain ⟨aos, caps, hrs, hlks⟩ := hS2.lookAll hn hw
  have hlk := (hlks _ (Only.refl NoBlock w2).drew).1
  have hlkA := (hlks _ hAz).1
  have hAv : Only NoBlock w2 (w2.alloc (Obj.cells #[.slice aos s.steps.length caps, .int .i64 s.state, .int .i64 s.cursor, .int .i64 s.failed] 63)).drew := ((Only.refl NoBlock w2).alloc _).drew
  have c1B := (hB2.keeps hAv (fun h => h)).cell 1
  have x3B := (hX2.keeps hAv (fun h => h)).cell 3
  simp only [List.getElem?_toArray, List.getElem?_cons_succ, List.getElem?_cons_zero] at c1B x3B
  have hlkB := (hlks _ hAv).1
  go_region_held3 (fun w' => w'.cell? ⟨p, 1, none⟩ = some (.map (some mb)) ∧ w'.cell? ⟨X, 3, none⟩ = some (.int .u64 sg) ∧ (Instr.lookup 70 (.map (some mb)) (.int .u64 sg) true).run Try.prog w' = .ok (.tuple #[.agg #[.slice aos s.steps.length caps, .int .i64 s.state, .int .i64 s.cursor, .int .i64 s.failed], .bool true]) w')
    (first | with_reducible exact ⟨c1, x3, hlk⟩ | with_reducible exact ⟨c1A, x3A, hlkA⟩ | with_reducible exact ⟨c1B, x3B, hlkB⟩ | exact ⟨by assumption, by assumption, by assumption⟩ | go_keep)
    (fail)
  all_goals
    clear hlk hlkA c1A x3A hAz c1 x3 hlkB c1B x3B
    have hSx := (Blk.made w2 #[.slice aos s.steps.length caps, .int .i64 s.state, .int .i64 s.cursor, .int .i64 s.failed] 63).drew
    have hA := ((Only.refl NoBlock w2).alloc (Obj.cells #[.slice aos s.steps.length caps, .int .i64 s.state, .int .i64 s.cursor, .int .i64 s.failed] 63)).drew
    have hB3 := hB2.keeps hA (fun h => h)
    have hG3 := hG.keeps hA (fun h => h)
    have hX3 := hX2.keeps hA (fun h => h)
    have hS3 := hS2.keepsN hA
    have hr3 := hr2.keepsN hA
    have hO3 := hO2.trans hA
    have hAs := hA
    have hSx0 : w.heap.size ≤ w2.heap.size := hO2.size
    have hGS : G ≠ w2.heap.size := by have := hG.lt; omega
    have hXS : X ≠ w2.heap.size := by have := hX2.lt; omega
    have hmS : mb ≠ w2.heap.size := by omega
    have hpS : p ≠ w2.heap.size := by have := hB2.lt; omega
    generalize (w2.alloc (Obj.cells #[.slice aos s.steps.length caps, .int .i64 s.state, .int .i64 s.cursor, .int .i64 s.failed] 63)).drew = w3 at hSx hB3 hG3 hX3 hS3 hr3 hO3 hAs ⊢
    generalize w2.heap.size = Sx at hSx hSx0 hGS hXS hmS hpS ⊢
    clear hA hB2 hG hX2 hS2 hr2 hO2 hGX
    have hrs3 := hrs.keepsN (hAs)
    clear hlks hrs hAs hAv
    have x5 := hX3.cell 5
    have x6 := hX3.cell 6
    have x7 := hX3.cell 7
    have x8 := hX3.cell 8
    simp only [List.getElem?_toArray, List.getElem?_cons_succ, List.getElem?_cons_zero] at x5 x6 x7 x8
    have s0 := hSx.cell 0
    have sf0 := hSx.free 0
    have s1 := hSx.cell 1
    have sf1 := hSx.free 1
    have s2 := hSx.cell 2
    have sf2 := hSx.free 2
    have s3 := hSx.cell 3
    have sf3 := hSx.free 3
    simp only [List.getElem?_toArray, List.getElem?_cons_succ, List.getElem?_cons_zero] at s0 s1 s2 s3
    go_wp2_with fail
    refine (outcome_at w3 s aos caps hsm hrs3 st bk tr ok (by omega)).mono ?_
    rintro e w4 ⟨rfl, hO4⟩
    rw [HC.out]
    have hB4 := hB3.keeps hO4 (fun h => h)
    have hG4 := hG3.keeps hO4 (fun h => h)
    have hX4 := hX3.keeps hO4 (fun h => h)
    have hS4 := hS3.keepsN hO4
    have hSx4 := hSx.keeps hO4 (fun h => h)
    have hO4' := hO3.trans hO4
    clear hB3 hG3 hX3 hS3 hSx hO3 hr3 hrs3 hO4 x5 x6 x7 x8
    clear s0 s1 s2 s3 sf0 sf1 sf2 sf3
    have s0 := hSx4.cell 0
    have sf0 := hSx4.free 0
    have s1 := hSx4.cell 1
    have sf1 := hSx4.free 1
    have s2 := hSx4.cell 2
    have sf2 := hSx4.free 2
    have s3 := hSx4.cell 3
    have sf3 := hSx4.free 3
    simp only [List.getElem?_toArray, List.getElem?_cons_succ, List.getElem?_cons_zero] at s0 s1 s2 s3
    generalize (Mc.outcome s st bk tr ok).1 = so
    unfold sgV
    have g0 := hG4.cell 0
    have gf0 := hG4.free 0
    have g1 := hG4.cell 1
    have gf1 := hG4.free 1
    have g2 := hG4.cell 2
    have gf2 := hG4.free 2
    simp only [List.getElem?_toArray, List.getElem?_cons_succ, List.getElem?_cons_zero] at g0 g1 g2
    go_upto_region 6 with fail
    have hO5 := sets_only (g := Sx) hO4' (fun h => by omega) [.slice aos so.steps.length caps, .int .i64 so.state, .int .i64 so.cursor, .int .i64 so.failed] 0
    have hZ := sets_only (S := fun k => k = Sx) (g := Sx) (Only.refl _ w4) (fun _ => rfl) [.slice aos so.steps.length caps, .int .i64 so.state, .int .i64 so.cursor, .int .i64 so.failed] 0
    simp only [sets] at hO5 hZ
    have hG5 := hG4.keeps hZ (fun e => hGS e)
    generalize ((((w4.setCell ⟨Sx, 0, none⟩ (.slice aos so.steps.length caps)).setCell ⟨Sx, 0 + 1, none⟩ (.int .i64 so.state)).setCell ⟨Sx, 0 + 1 + 1, none⟩ (.int .i64 so.cursor)).setCell ⟨Sx, 0 + 1 + 1 + 1, none⟩ (.int .i64 so.failed)) = w5 at hO5 hG5 ⊢
    clear g0 g1 g2 gf0 gf1 gf2
    have g0 := hG5.cell 0
    have gf0 := hG5.free 0
    have g1 := hG5.cell 1
    have gf1 := hG5.free 1
    have g2 := hG5.cell 2
    have gf2 := hG5.free 2
    simp only [List.getElem?_toArray, List.getElem?_cons_succ, List.getElem?_cons_zero] at g0 g1 g2
    go_wp2_with fail
    have hV := rep_ret hG5 (.int .i64 41) (.int .u64 0) (.int .u64 0) rfl
    refine bodyPost_ret (results_cell_row (P := Try.prog) rfl _ _ G _ _ _ _ rfl hV HFS.out rfl size_rep) rfl ?_
    exact ⟨rfl, ((hO5.setCell (p := ⟨G, 0, none⟩) (fun h => by have h' : G < w.heap.size := h; omega) (.int .i64 41)).setCell (p := ⟨G, 1, none⟩) (fun h => by have h' : G < w.heap.size := h; omega) (.int .u64 0)).setCell (p := ⟨G, 2, none⟩) (fun h => by have h' : G < w.heap.size := h; omega) (.int .u64 0)⟩
set_option maxHeartbeats 4000000 in
theorem mout_done (w : World) (p tb mb : Nat) (m : Mc.Mach) (hB : Blk w p #[.pointer (some ⟨tb, 0, none⟩), .map (some mb)] 72) (hS : SgsAt w mb m.sagas m.ids.length) (hk : m.Ok)
    (a b sg now : Nat) (l : List Pk.Stp) (ao : Option Addr) (cap : Nat) (st : Nat) (bk : Bool) (tr : Nat) (ok : Bool) (hst : st ≤ 64) (hrow : RowIn stpK 38 w ao l) (hw : sg < 18446744073709551616) (s : Mc.Sg) (hn : m.sagas sg = some s) (hc : (Mc.outcome s st bk tr ok).2 = true) :
    Calls Try.prog 29 #[.pointer (some ⟨p, 0, none⟩), .agg #[.int .i64 (4 : Nat), .int .u64 a, .int .u64 b, .int .u64 sg, .slice ao l.length cap, .int .i64 (st : Int), .bool bk, .int .i64 (tr : Int), .bool ok, .int .u64 now]] w fun e w' => e = .returned (repV (Mc.told (Mc.outcome s st bk tr ok).1)) ∧ SgsAt w' mb (Mc.put m.sagas sg (Mc.outcome s st bk tr ok).1) m.ids.length ∧ Only (fun k => k = mb) w w' := by
  obtain ⟨fs, hfs⟩ := u_rep
  have HFS := Lib.hid hfs
  clear hfs
  have hlen := hk.len
  go_enter Try.func29, Try.ntmps29
  go_upto_region 1 with fail
  have hX := Blk.made w #[.int .i64 (4 : Nat), .int .u64 a, .int .u64 b, .int .u64 sg, .slice ao l.length cap, .int .i64 (st : Int), .bool bk, .int .i64 (tr : Int), .bool ok, .int .u64 now] 31
  have hO := (Only.refl NoBlock w).alloc (Obj.cells #[.int .i64 (4 : Nat), .int .u64 a, .int .u64 b, .int .u64 sg, .slice ao l.length cap, .int .i64 (st : Int), .bool bk, .int .i64 (tr : Int), .bool ok, .int .u64 now] 31)
  have hz : (w.alloc (Obj.cells #[.int .i64 (4 : Nat), .int .u64 a, .int .u64 b, .int .u64 sg, .slice ao l.length cap, .int .i64 (st : Int), .bool bk, .int .i64 (tr : Int), .bool ok, .int .u64 now] 31)).heap.size = w.heap.size + 1 := by simp
  generalize w.alloc (Obj.cells #[.int .i64 (4 : Nat), .int .u64 a, .int .u64 b, .int .u64 sg, .slice ao l.length cap, .int .i64 (st : Int), .bool bk, .int .i64 (tr : Int), .bool ok, .int .u64 now] 31) = w1 at hX hO hz ⊢
  rw [← hz]
  have hG := Blk.made w1 #[.int .i64 0, .int .u64 0, .int .u64 0] 34
  have hX2 := hX.alloc (.cells #[.int .i64 0, .int .u64 0, .int .u64 0] 34)
  have hO2 := hO.alloc (.cells #[.int .i64 0, .int .u64 0, .int .u64 0] 34)
  have hG0 : w.heap.size ≤ w1.heap.size := by omega
  have hX0 : w.heap.size ≤ w.heap.size := Nat.le_refl _
  have hml := hS.lt
  generalize w1.alloc (.cells #[.int .i64 0, .int .u64 0, .int .u64 0] 34) = w2 at hG hX2 hO2 ⊢
  generalize w1.heap.size = G at hG hG0 ⊢
  have hGX : w.heap.size ≤ w2.heap.size := hO2.size
  have hmG : mb ≠ G := by omega
  generalize hXe : w.heap.size = X at hX2 ⊢
  have hX0 : w.heap.size ≤ X := by omega
  have hB2 := hB.keeps hO2 (fun h => h)
  have hS2 := hS.keepsN hO2
  have hr2 := hrow.keepsN hO2
  clear hX hO hz hB hS hrow hXe
  have c1 := hB2.cell 1
  have x3 := hX2.cell 3
  simp only [List.getElem?_toArray, List.getElem?_cons_succ, List.getElem?_cons_zero] at c1 x3
  have HC := Lib.hid hc
  clear hc
  have hsm := okSs_small (Mc.sound_up (hk.sound sg s hn)).1
  have HSO := Lib.hid (hk.sound sg s hn)
  have hAz : Only NoBlock w2 (w2.alloc (Obj.cells #[.slice none 0 0, .int .i64 0, .int .i64 0, .int .i64 0] 63)).drew := ((Only.refl NoBlock w2).alloc _).drew
  have c1A := (hB2.keeps hAz (fun h => h)).cell 1
  have x3A := (hX2.keeps hAz (fun h => h)).cell 3
  simp only [List.getElem?_toArray, List.getElem?_cons_succ, List.getElem?_cons_zero] at c1A x3A
  obtain ⟨aos, caps, hrs, hlks⟩ := hS2.lookAll hn hw
  have hlk := (hlks _ (Only.refl NoBlock w2).drew).1
  have hlkA := (hlks _ hAz).1
  have hAv : Only NoBlock w2 (w2.alloc (Obj.cells #[.slice aos s.steps.length caps, .int .i64 s.state, .int .i64 s.cursor, .int .i64 s.failed] 63)).drew := ((Only.refl NoBlock w2).alloc _).drew
  have c1B := (hB2.keeps hAv (fun h => h)).cell 1
  have x3B := (hX2.keeps hAv (fun h => h)).cell 3
  simp only [List.getElem?_toArray, List.getElem?_cons_succ, List.getElem?_cons_zero] at c1B x3B
  have hlkB := (hlks _ hAv).1
  go_region_held3 (fun w' => w'.cell? ⟨p, 1, none⟩ = some (.map (some mb)) ∧ w'.cell? ⟨X, 3, none⟩ = some (.int .u64 sg) ∧ (Instr.lookup 70 (.map (some mb)) (.int .u64 sg) true).run Try.prog w' = .ok (.tuple #[.agg #[.slice aos s.steps.length caps, .int .i64 s.state, .int .i64 s.cursor, .int .i64 s.failed], .bool true]) w')
    (first | with_reducible exact ⟨c1, x3, hlk⟩ | with_reducible exact ⟨c1A, x3A, hlkA⟩ | with_reducible exact ⟨c1B, x3B, hlkB⟩ | exact ⟨by assumption, by assumption, by assumption⟩ | go_keep)
    (fail)
  all_goals
    clear hlk hlkA c1A x3A hAz c1 x3 hlkB c1B x3B
    have hSx := (Blk.made w2 #[.slice aos s.steps.length caps, .int .i64 s.state, .int .i64 s.cursor, .int .i64 s.failed] 63).drew
    have hA := ((Only.refl NoBlock w2).alloc (Obj.cells #[.slice aos s.steps.length caps, .int .i64 s.state, .int .i64 s.cursor, .int .i64 s.failed] 63)).drew
    have hB3 := hB2.keeps hA (fun h => h)
    have hG3 := hG.keeps hA (fun h => h)
    have hX3 := hX2.keeps hA (fun h => h)
    have hS3 := hS2.keepsN hA
    have hr3 := hr2.keepsN hA
    have hO3 := hO2.trans hA
    have hAs := hA
    have hSx0 : w.heap.size ≤ w2.heap.size := hO2.size
    have hGS : G ≠ w2.heap.size := by have := hG.lt; omega
    have hXS : X ≠ w2.heap.size := by have := hX2.lt; omega
    have hmS : mb ≠ w2.heap.size := by omega
    have hpS : p ≠ w2.heap.size := by have := hB2.lt; omega
    generalize (w2.alloc (Obj.cells #[.slice aos s.steps.length caps, .int .i64 s.state, .int .i64 s.cursor, .int .i64 s.failed] 63)).drew = w3 at hSx hB3 hG3 hX3 hS3 hr3 hO3 hAs ⊢
    generalize w2.heap.size = Sx at hSx hSx0 hGS hXS hmS hpS ⊢
    clear hA hB2 hG hX2 hS2 hr2 hO2 hGX
    have hrs3 := hrs.keepsN (hAs)
    clear hlks hrs hAs hAv
    have x5 := hX3.cell 5
    have x6 := hX3.cell 6
    have x7 := hX3.cell 7
    have x8 := hX3.cell 8
    simp only [List.getElem?_toArray, List.getElem?_cons_succ, List.getElem?_cons_zero] at x5 x6 x7 x8
    have s0 := hSx.cell 0
    have sf0 := hSx.free 0
    have s1 := hSx.cell 1
    have sf1 := hSx.free 1
    have s2 := hSx.cell 2
    have sf2 := hSx.free 2
    have s3 := hSx.cell 3
    have sf3 := hSx.free 3
    simp only [List.getElem?_toArray, List.getElem?_cons_succ, List.getElem?_cons_zero] at s0 s1 s2 s3
    go_wp2_with fail
    refine (outcome_at w3 s aos caps hsm hrs3 st bk tr ok (by omega)).mono ?_
    rintro e w4 ⟨rfl, hO4⟩
    rw [HC.out]
    have hB4 := hB3.keeps hO4 (fun h => h)
    have hG4 := hG3.keeps hO4 (fun h => h)
    have hX4 := hX3.keeps hO4 (fun h => h)
    have hS4 := hS3.keepsN hO4
    have hSx4 := hSx.keeps hO4 (fun h => h)
    have hO4' := hO3.trans hO4
    have hab := Mc.sound_up (Mc.outcome_sound HSO.out st bk tr ok)
    have hsp : (Mc.outcome s st bk tr ok).1.steps = s.steps := outcome_steps s st bk tr ok
    generalize hsa : (Mc.outcome s st bk tr ok).1 = sa at hab hsp ⊢
    have HAB := Lib.hid hab
    have HST := Lib.hid hsp
    have HSA := Lib.hid hsa
    clear hsa hab hsp
    have hr4 : RowIn stpK 38 w4 aos sa.steps := by rw [HST.out]; exact hrs3.keepsN hO4
    clear hB3 hG3 hX3 hS3 hSx hO3 hr3 hrs3 hO4 x5 x6 x7 x8
    clear s0 s1 s2 s3 sf0 sf1 sf2 sf3
    have s0 := hSx4.cell 0
    have sf0 := hSx4.free 0
    have s1 := hSx4.cell 1
    have sf1 := hSx4.free 1
    have s2 := hSx4.cell 2
    have sf2 := hSx4.free 2
    have s3 := hSx4.cell 3
    have sf3 := hSx4.free 3
    simp only [List.getElem?_toArray, List.getElem?_cons_succ, List.getElem?_cons_zero] at s0 s1 s2 s3
    have hl0 : 0 < sa.steps.length := (Mc.okSs_pos HAB.out.1).1
    unfold sgV
    go_upto_region 7 with fail
    have hZ := sets_only (S := fun k => k = Sx) (g := Sx) (Only.refl _ w4) (fun _ => rfl) [.slice aos sa.steps.length caps, .int .i64 sa.state, .int .i64 sa.cursor, .int .i64 sa.failed] 0
    have hSx5 := sets_blk hSx4 [.slice aos sa.steps.length caps, .int .i64 sa.state, .int .i64 sa.cursor, .int .i64 sa.failed] rfl
    have hO5 := sets_only (g := Sx) hO4' (fun h => by omega) [.slice aos sa.steps.length caps, .int .i64 sa.state, .int .i64 sa.cursor, .int .i64 sa.failed] 0
    simp only [sets] at hZ hSx5 hO5
    have hB5 := hB4.keeps hZ (fun e => hpS e)
    have hG5 := hG4.keeps hZ (fun e => hGS e)
    have hX5 := hX4.keeps hZ (fun e => hXS e)
    have hS5 := hS4.keeps hZ (fun e => hmS e) (fun k hk => by subst hk; exact fun ht => ht.ne_blk hSx4 (by decide) rfl)
    have hr5 := hr4.keepsT hZ (fun k hk => by subst hk; exact fun ht => ht.ne_blk hSx4 (by decide) rfl)
    generalize ((((w4.setCell ⟨Sx, 0, none⟩ (.slice aos sa.steps.length caps)).setCell ⟨Sx, 0 + 1, none⟩ (.int .i64 sa.state)).setCell ⟨Sx, 0 + 1 + 1, none⟩ (.int .i64 sa.cursor)).setCell ⟨Sx, 0 + 1 + 1 + 1, none⟩ (.int .i64 sa.failed)) = w5 at hSx5 hO5 hB5 hG5 hX5 hS5 hr5 ⊢
    clear hZ hB4 hG4 hX4 hS4 hSx4 hO4' hr4
    clear s0 s1 s2 s3 sf0 sf1 sf2 sf3
    have s0 := hSx5.cell 0
    have sf0 := hSx5.free 0
    have s1 := hSx5.cell 1
    have sf1 := hSx5.free 1
    have s2 := hSx5.cell 2
    have sf2 := hSx5.free 2
    have s3 := hSx5.cell 3
    have sf3 := hSx5.free 3
    simp only [List.getElem?_toArray, List.getElem?_cons_succ, List.getElem?_cons_zero] at s0 s1 s2 s3
    have c1 := hB5.cell 1
    have x3 := hX5.cell 3
    simp only [List.getElem?_toArray, List.getElem?_cons_succ, List.getElem?_cons_zero] at c1 x3
    refine wp_region_tail 7 (by kernel_rfl) (by kernel_rfl) ?_
    simp only [List.take_succ_cons, List.take_zero, List.drop_succ_cons, List.drop_zero]
    repeat still_step
    try refine wpStill_nil ?_
    have hS5d := hS5.keepsN ((Only.refl NoBlock w5).drew)
    have hr5d := hr5.keepsN ((Only.refl NoBlock w5).drew)
    go_upto_region 8 with (first | (at_mapUpdate; refine wpList_sgstore rfl _ _ _ rfl hS5d (by omega) rfl sg rfl hw sa aos caps rfl hr5d hl0 ?_; intro w6 hS6 hg6))
    have hOm := Only.of_grown hg6
    have hG6 := (Blk.drew hG5).keeps hOm (fun e => hmG (by cases e; rfl))
    have hSx6 := (Blk.drew hSx5).keeps hOm (fun e => hmS (by cases e; rfl))
    have hO6 : Only (fun k => k = mb) w w6 := (hO5.drew.of_no).grown hg6 (fun k hk _ => by cases hk; rfl)
    clear hOm hg6 hS5 hS5d hr5 hr5d hG5 hSx5 hX5 hB5 hO5 c1 x3
    clear s0 s1 s2 s3 sf0 sf1 sf2 sf3
    have s0 := hSx6.cell 0
    have s1 := hSx6.cell 1
    have s2 := hSx6.cell 2
    have s3 := hSx6.cell 3
    simp only [List.getElem?_toArray, List.getElem?_cons_succ, List.getElem?_cons_zero] at s0 s1 s2 s3
    go_wp2_with fail
    refine (told_at w6 sa aos caps HAB.out.2.1 (by have := HAB.out; omega) HAB.out.2.2.2.1 (by have := HAB.out; omega)).mono ?_
    rintro e w7 ⟨rfl, hO7⟩
    have hG7 := hG6.keeps hO7 (fun h => h)
    have hS7 := hS6.keepsN hO7
    have hO7' := hO6.trans hO7.of_no
    clear hG6 hSx6 hS6 hO6 hO7
    clear s0 s1 s2 s3
    have g0 := hG7.cell 0
    have gf0 := hG7.free 0
    have g1 := hG7.cell 1
    have gf1 := hG7.free 1
    have g2 := hG7.cell 2
    have gf2 := hG7.free 2
    simp only [List.getElem?_toArray, List.getElem?_cons_succ, List.getElem?_cons_zero] at g0 g1 g2
    unfold repV
    go_wp2_with fail
    have hW2 := sets_only (S := fun k => k = G) (g := G) (Only.refl _ w7) (fun _ => rfl) [.int .i64 (Mc.told sa).err, .int .u64 (Mc.told sa).num, .int .u64 (Mc.told sa).extra] 0
    simp only [sets] at hW2
    have hV := rep_ret hG7 (.int .i64 (Mc.told sa).err) (.int .u64 (Mc.told sa).num) (.int .u64 (Mc.told sa).extra) rfl
    refine bodyPost_ret (results_cell_row (P := Try.prog) rfl _ _ G _ _ _ _ rfl hV HFS.out rfl size_rep) rfl ?_
    rw [HSA.out]
    exact ⟨rfl, by have := hS7.keeps hW2 (fun e => hmG e) (fun k hk => by subst hk; exact fun ht => ht.ne_blk hG7 (by decide) rfl); rw [hn] at this; exact this, only_new hO7' hG0 hW2⟩
theorem mout_at (w : World) (p tb mb : Nat) (m : Mc.Mach) (hB : Blk w p #[.pointer (some ⟨tb, 0, none⟩), .map (some mb)] 72) (hS : SgsAt w mb m.sagas m.ids.length) (hk : m.Ok)
    (c : Pk.Cmd) (ao : Option Addr) (cap : Nat) (hrow : RowIn stpK 38 w ao c.steps) (hm : Pk.may c = true) (hw : c.Wf) (h4 : c.kind = 4) :
    Calls Try.prog 29 #[.pointer (some ⟨p, 0, none⟩), cmdV c ao cap] w fun e w' => e = .returned (repV (m.outcome c).2) ∧ SgsAt w' mb (m.outcome c).1.sagas (m.outcome c).1.ids.length ∧ Only (fun k => k = mb) w w' := by
  have hws := hw.saga
  obtain ⟨k, a, b, sg, l, st, bk, tr, ok, now⟩ := c
  simp only at h4 hrow hws
  subst h4
  have hst : st ≤ 64 := by
    unfold Pk.may at hm
    rw [if_neg (by simp), if_neg (by simp), if_pos rfl] at hm
    simp at hm
    omega
  have keep : ∀ {w' : World}, Only NoBlock w w' → SgsAt w' mb m.sagas m.ids.length ∧ Only (fun k => k = mb) w w' := fun ho => ⟨hS.keepsN ho, ho.of_no⟩
  cases hn : m.sagas sg with
  | none =>
    have e : m.outcome ⟨4, a, b, sg, l, st, bk, tr, ok, now⟩ = (m, ⟨43, 0, 0⟩) := by unfold Mc.Mach.outcome; simp only [hn]
    rw [e]
    exact (mout_none w p tb mb m hB hS hk a b sg now l ao cap st bk tr ok hst hrow hws hn).mono (fun _ _ h => ⟨h.1, keep h.2⟩)
  | some s =>
    cases hc : (Mc.outcome s st bk tr ok).2 with
    | false =>
      have e : m.outcome ⟨4, a, b, sg, l, st, bk, tr, ok, now⟩ = (m, ⟨41, 0, 0⟩) := by unfold Mc.Mach.outcome; simp only [hn]; rw [if_neg (by rw [hc]; exact Bool.false_ne_true)]
      rw [e]
      exact (mout_stale w p tb mb m hB hS hk a b sg now l ao cap st bk tr ok hst hrow hws s hn hc).mono (fun _ _ h => ⟨h.1, keep h.2⟩)
    | true =>
      have e : m.outcome ⟨4, a, b, sg, l, st, bk, tr, ok, now⟩ = (⟨m.tab, m.ids, Mc.put m.sagas sg (Mc.outcome s st bk tr ok).1⟩, Mc.told (Mc.outcome s st bk tr ok).1) := by unfold Mc.Mach.outcome; simp only [hn]; rw [if_pos hc]
      rw [e]
      exact mout_done w p tb mb m hB hS hk a b sg now l ao cap st bk tr ok hst hrow hws s hn hc
end Go.Proofs.Ytogeeeigfhmpmaa

/- session.Table's Register. -/
namespace Go.Proofs.Ytogeeeigfhmpmaa
open Go.RowKit
set_option maxRecDepth 100000

set_option maxHeartbeats 1600000 in
theorem register_at (w : World) (tb : Nat) (v : Value) (t : Mc.Tab) (h : TabAt w tb v t) (hk : t.Ok) :
    Calls Try.prog 28 #[.pointer (some ⟨tb, 0, none⟩)] w fun e w' => e = .returned (.tuple #[.int .u64 (t.register.2.1 : Nat), .int .i64 t.register.2.2]) ∧ ∃ v', TabTo tb v t.register.1 w w' v' := by
  have hlen := hk.len
  have hnx := hk.next
  obtain ⟨tnow, next, l⟩ := t
  have h0 := h
  obtain ⟨hB, hrow⟩ := h
  simp only at hB hrow hlen hnx
  have htl := hB.lt
  have c0 := hB.cell 0
  have c1 := hB.cell 1
  have c2 := hB.cell 2
  have f1 := hB.free 1
  have f2 := hB.free 2
  simp only [List.getElem?_toArray, List.getElem?_cons_succ, List.getElem?_cons_zero] at c0 c1 c2
  have hrow0 := hrow
  obtain ⟨ao, cap, rfl⟩ := hrow.shape
  clear hk
  by_cases h16 : 16 ≤ l.length
  · have HR : RowKit.Hid (Mc.Tab.register ⟨tnow, next, l⟩ = (⟨tnow, next, l⟩, 0, 11)) := Lib.hid (by unfold Mc.Tab.register; rw [if_pos (.inl h16)])
    have d0 : decide (16 ≤ (l.length : Int)) = true := by simp; omega
    clear h16
    go_enter Try.func28, Try.ntmps28
    go_wp2_with fail
    go_ret2
    exact ⟨by rw [HR.out]; rfl, _, by rw [HR.out]; exact ⟨h0, fun k hk => .inl hk, Only.refl _ _⟩⟩
  have d0 : decide (16 ≤ (l.length : Int)) = false := by simp; omega
  by_cases hmx : next = 18446744073709551615
  · have HR : RowKit.Hid (Mc.Tab.register ⟨tnow, next, l⟩ = (⟨tnow, next, l⟩, 0, 11)) := Lib.hid (by unfold Mc.Tab.register; rw [if_pos (.inr hmx)])
    have d1 : ((next : Int) == 18446744073709551615) = true := by simp; omega
    clear h16 hmx
    go_enter Try.func28, Try.ntmps28
    go_wp2_with fail
    go_ret2
    exact ⟨by rw [HR.out]; rfl, _, by rw [HR.out]; exact ⟨h0, fun k hk => .inl hk, Only.refl _ _⟩⟩
  have HR : RowKit.Hid (Mc.Tab.register ⟨tnow, next, l⟩ = (⟨tnow, next + 1, l ++ [⟨next, tnow, 0, ⟨0, 0, 0⟩⟩]⟩, next, 0)) := Lib.hid (by unfold Mc.Tab.register; rw [if_neg (by rintro (h | h); exact h16 h; exact hmx h)])
  have d1 : ((next : Int) == 18446744073709551615) = false := by simp; omega
  have hnx1 : next + 1 < 18446744073709551616 := by omega
  have hl1 : l.length + 1 ≤ 16 := by omega
  have hvp := h0.apart
  clear h16 hmx hnx
  go_enter Try.func28, Try.ntmps28
  go_upto_region 3 with fail
  have hlen2 : (l ++ [(⟨next, tnow, 0, ⟨0, 0, 0⟩⟩ : Mc.Ses)]).length = l.length + 1 := by simp
  have HLK2 := Lib.hid hlen2
  clear hlen2 d0 d1
  go_region_law (refine step_append_row1 sesT _ rfl _ _ rfl 0 (.slice ao l.length cap) l ⟨next, tnow, 0, ⟨0, 0, 0⟩⟩ w.heap.size 1 rfl (hrow0.keepsN (((Only.refl NoBlock _).alloc _).drew)) rfl (made_cells_drew sesK w _ _ rfl _ _ rfl) (by omega) (by omega) ?_; intro v7 w7 he7 hg7 hv7; have hp7 : Blk w7 tb _ _ := (hg7.block _ (by simp; omega) (fun e => hvp tb e.symm rfl)).trans (hB.alloc _); have c7 := hp7.cell 2; have f7 := hp7.free 2; simp only [List.getElem?_toArray, List.getElem?_cons_succ, List.getElem?_cons_zero] at c7; obtain ⟨ao7, cap7, rfl⟩ := he7.shape; rw [HLK2.out] at he7 hv7)
  all_goals
    have hB8 : Blk (w7.setCell ⟨tb, 2, none⟩ (.slice ao7 (l.length + 1) cap7)) tb #[.int .u64 tnow, .int .u64 next, .slice ao7 (l.length + 1) cap7] 112 := hp7.setCell 2 (.slice ao7 (l.length + 1) cap7)
    have hap : ∀ j, (Value.slice ao7 (l.length + 1) cap7).ownBlock = some j → j ≠ tb := fun j hj => (he7.ofT hj).ne_blk hp7 (by decide)
    have hS := (Only.refl (fun k => k = tb) w7).setCell (p := ⟨tb, 2, none⟩) (fun _ => rfl) (.slice ao7 (l.length + 1) cap7)
    have hrow8 := he7.keeps hS hap
    have hO8 : Only (fun k => k = tb ∨ (Value.slice ao l.length cap).ownBlock = some k) w (w7.setCell ⟨tb, 2, none⟩ (.slice ao7 (l.length + 1) cap7)) := ((((Only.refl _ w).alloc _).drew).grown hg7 (fun j hj _ => .inr hj)).trans (hS.mono (fun _ h => .inl h))
    generalize w7.setCell ⟨tb, 2, none⟩ (.slice ao7 (l.length + 1) cap7) = w8 at hB8 hrow8 hO8 ⊢
    clear hp7 c7 f7 he7 hg7 hS c0 c1 c2 f1 f2 hB hrow hrow0 h0
    have c1 := hB8.cell 1
    have f1 := hB8.free 1
    simp only [List.getElem?_toArray, List.getElem?_cons_succ, List.getElem?_cons_zero] at c1
    go_wp2_with fail
    go_ret2
    have hS2 := (Only.refl (fun k => k = tb) w8).setCell (p := ⟨tb, 1, none⟩) (fun _ => rfl) (.int .u64 ((next : Int) + 1))
    refine ⟨by rw [HR.out]; rfl, .slice ao7 (l.length + 1) cap7, ?_⟩
    rw [HR.out]
    exact ⟨⟨hB8.setCell 1 (.int .u64 ((next : Int) + 1)), hrow8.keeps hS2 hap⟩, fun j hj => hv7.elim (fun e => .inl (e ▸ hj)) (fun e => .inr (by rw [e] at hj; cases hj; simp)), hO8.trans (hS2.mono (fun _ h => .inl h))⟩
end Go.Proofs.Ytogeeeigfhmpmaa

/- session.Table's Begin, End. -/
namespace Go.Proofs.Ytogeeeigfhmpmaa
open Go.RowKit
set_option maxRecDepth 100000

theorem findV_some {t : Mc.Tab} {id i : Nat} (h : Mc.find t.rows id = some i) : findV t id = (i : Int) ∧ i < t.rows.length := by
  obtain ⟨hi, _⟩ := Mc.find_lt h
  exact ⟨by unfold findV; rw [h], hi⟩
theorem findV_none {t : Mc.Tab} {id : Nat} (h : Mc.find t.rows id = none) : findV t id = -1 := by unfold findV; rw [h]
theorem modify_set {f : Mc.Ses → Mc.Ses} {l : List Mc.Ses} {i : Nat} (hi : i < l.length) : l.modify i f = l.set i (f l[i]) := by
  refine List.ext_getElem (by simp) (fun j h1 h2 => ?_)
  rw [List.getElem_modify, List.getElem_set]
  by_cases e : i = j
  · subst e; simp
  · simp [e]
theorem start_none {t : Mc.Tab} {id seq : Nat} (h : Mc.find t.rows id = none) : t.start id seq = (t, ⟨40, 0, 0⟩, false) := by unfold Mc.Tab.start; rw [h]
theorem start_some {t : Mc.Tab} {id seq i : Nat} (h : Mc.find t.rows id = some i) {x : Mc.Ses} (hx : t.rows.getD i ⟨0, 0, 0, ⟨0, 0, 0⟩⟩ = x) (hi : i < t.rows.length) : t.start id seq =
    if seq = x.seq ∧ 0 < seq then (⟨t.now, t.next, t.rows.set i ⟨x.id, t.now, x.seq, x.rep⟩⟩, x.rep, false) else if seq ≠ x.seq + 1 ∨ seq = 0 then (⟨t.now, t.next, t.rows.set i ⟨x.id, t.now, x.seq, x.rep⟩⟩, ⟨41, 0, 0⟩, false) else (⟨t.now, t.next, t.rows.set i ⟨x.id, t.now, x.seq, x.rep⟩⟩, ⟨0, 0, 0⟩, true) := by
  unfold Mc.Tab.start
  rw [h]
  have e : Mc.used t.rows i t.now = t.rows.set i ⟨x.id, t.now, x.seq, x.rep⟩ := by
    unfold Mc.used
    rw [modify_set hi]
    rw [List.getD_eq_getElem?_getD, List.getElem?_eq_getElem hi, Option.getD_some] at hx
    rw [hx]
  simp only [hx, e]
theorem end_none {t : Mc.Tab} {id seq : Nat} {y : Mc.Rep} (h : Mc.find t.rows id = none) : t.end_ id seq y = t := by unfold Mc.Tab.end_; rw [h]
theorem end_some {t : Mc.Tab} {id seq i : Nat} {y : Mc.Rep} (h : Mc.find t.rows id = some i) {x : Mc.Ses} (hx : t.rows.getD i ⟨0, 0, 0, ⟨0, 0, 0⟩⟩ = x) (hi : i < t.rows.length) : t.end_ id seq y = ⟨t.now, t.next, t.rows.set i ⟨x.id, x.used, seq, y⟩⟩ := by
  unfold Mc.Tab.end_
  rw [h]
  simp only
  rw [modify_set hi]
  rw [List.getD_eq_getElem?_getD, List.getElem?_eq_getElem hi, Option.getD_some] at hx
  rw [hx]

set_option maxHeartbeats 4000000 in
theorem start_at (w : World) (tb : Nat) (v : Value) (t : Mc.Tab) (h : TabAt w tb v t) (hk : t.Ok) (id seq : Nat) (hsq : seq < 18446744073709551616) :
    Calls Try.prog 30 #[.pointer (some ⟨tb, 0, none⟩), .int .u64 id, .int .u64 seq] w fun e w' => e = .returned (.tuple #[repV (t.start id seq).2.1, .bool (t.start id seq).2.2]) ∧ ∃ v', TabTo tb v (t.start id seq).1 w w' v' := by
  obtain ⟨fs, hfs⟩ := u_rep
  have HFS := Lib.hid hfs
  clear hfs
  have htl := h.blk.lt
  have hlen := hk.len
  go_enter Try.func30, Try.ntmps30
  go_upto_region 1 with fail
  have hG := Blk.made w #[.int .i64 0, .int .u64 0, .int .u64 0] 34
  have hO := (Only.refl NoBlock w).alloc (Obj.cells #[.int .i64 0, .int .u64 0, .int .u64 0] 34)
  have hT := h.keepsN hO
  generalize w.alloc (Obj.cells #[.int .i64 0, .int .u64 0, .int .u64 0] 34) = w1 at hG hO hT ⊢
  have hG0 : w.heap.size ≤ w.heap.size := Nat.le_refl _
  have hvG : ∀ k, v.ownBlock = some k → k ≠ w.heap.size := fun k hk e => by have := (h.row.ofT hk).lt; omega
  have htG : tb ≠ w.heap.size := by omega
  generalize hGe : w.heap.size = G at hG hvG htG ⊢
  have hG0 : w.heap.size ≤ G := by omega
  clear hGe h htl
  go_wp2_with fail
  refine (sfind_at w1 tb v t hT hlen id).mono ?_
  rintro e w2 ⟨rfl, hO2⟩
  have hT2 := hT.keepsN hO2
  have hG2 := hG.keeps hO2 (fun h => h)
  have hO2' := hO.trans hO2
  clear hT hG hO hO2
  have g0 := hG2.cell 0
  have g1 := hG2.cell 1
  have g2 := hG2.cell 2
  have u0 := hG2.free 0
  have u1 := hG2.free 1
  have u2 := hG2.free 2
  simp only [List.getElem?_toArray, List.getElem?_cons_succ, List.getElem?_cons_zero] at g0 g1 g2
  cases hf : Mc.find t.rows id with
  | none =>
    rw [findV_none hf]
    have HR := Lib.hid (start_none (seq := seq) hf)
    clear hf
    go_wp2_with fail
    have hV := sets_blk hG2 [.int .i64 40, .int .u64 0, .int .u64 0] rfl
    have hW := sets_only (g := G) hO2' (fun h => by omega) [.int .i64 40, .int .u64 0, .int .u64 0] 0
    have hW2 := sets_only (S := fun k => k = G) (g := G) (Only.refl _ w2) (fun _ => rfl) [.int .i64 40, .int .u64 0, .int .u64 0] 0
    simp only [sets] at hV hW hW2
    refine bodyPost_ret (results_cell_tmp (P := Try.prog) rfl _ _ G _ _ _ _ rfl hV HFS.out rfl size_rep) rfl ?_
    exact ⟨by rw [HR.out]; rfl, v, by rw [HR.out]; exact ⟨hT2.keeps hW2 htG hvG, fun k hk => .inl hk, hW.of_no⟩⟩
  | some i =>
    obtain ⟨he, hi⟩ := findV_some hf
    rw [he]
    obtain ⟨⟨xi, xu, xs, ⟨ye, yn, yx⟩⟩, hx⟩ : ∃ x, t.rows.getD i ⟨0, 0, 0, ⟨0, 0, 0⟩⟩ = x := ⟨_, rfl⟩
    have HR := Lib.hid (start_some (seq := seq) hf hx hi)
    have hxs : xs < 18446744073709551616 := by
      rw [List.getD_eq_getElem?_getD, List.getElem?_eq_getElem hi, Option.getD_some] at hx
      have := (hk.rows _ (List.getElem_mem hi)).seq
      rw [hx] at this
      exact this
    obtain ⟨tnow, next, l⟩ := t
    simp only at hi HR hx hlen
    clear he hf hk
    obtain ⟨hB, hrow⟩ := hT2
    simp only at hB hrow
    obtain ⟨g, cap, rfl, _, hlc, hcm, hgl⟩ := hrow.shapeG (by omega)
    have hgG : g ≠ G := hvG g rfl
    have htg : g ≠ tb := (hrow.ofT rfl).ne_blk hB (by decide)
    have hcell := fun j (hj : j < 6) => hrow.cell rfl hi (j := j) hj
    rw [show l.getD i sesK.zero = ⟨xi, xu, xs, ⟨ye, yn, yx⟩⟩ from hx] at hcell
    have e1 := hcell 1 (by decide)
    simp only [sesK, List.getElem?_cons_succ, List.getElem?_cons_zero] at e1
    have q1 := hrow.free rfl (i * 6 + 1)
    have c0 := hB.cell 0
    have c2 := hB.cell 2
    simp only [List.getElem?_toArray, List.getElem?_cons_succ, List.getElem?_cons_zero] at c0 c2
    have hil : decide (i < l.length) = true := by simpa using hi
    have hi0 : ¬ ((i : Int) < 0) := by omega
    have hrw := hrow.write rfl hi (j := 1) (by decide) ⟨xi, tnow, xs, ⟨ye, yn, yx⟩⟩ (.int .u64 (tnow : Int)) (by rw [show l.getD i sesK.zero = ⟨xi, xu, xs, ⟨ye, yn, yx⟩⟩ from hx]; rfl)
    have HX := Lib.hid hx
    clear hx hcell
    go_upto_region 6 with fail
    have hS := (Only.refl (fun k => k = g) w2).setCell (p := ⟨g, i * 6 + 1, none⟩) (fun _ => rfl) (.int .u64 (tnow : Int))
    have hB3 := hB.keeps hS (fun e => htg e.symm)
    have hG3 := hG2.keeps hS (fun e => hgG e.symm)
    have hO3 := hO2'.of_no.trans (hS.mono (T := fun k => k = tb ∨ (Value.slice (some ⟨g, 0, none⟩) l.length cap).ownBlock = some k) (fun k hk => .inr (by rw [hk]; rfl)))
    have hrow3 : RowAt sesK 58 (w2.setCell ⟨g, i * 6 + 1, none⟩ (.int .u64 (tnow : Int))) 0 (.slice (some ⟨g, 0, none⟩) l.length cap) (l.set i ⟨xi, tnow, xs, ⟨ye, yn, yx⟩⟩) := hrw
    generalize w2.setCell ⟨g, i * 6 + 1, none⟩ (.int .u64 (tnow : Int)) = w3 at hB3 hG3 hO3 hrow3 ⊢
    clear hB hG2 hO2' hrow hrw hS e1 q1 c0 c2 g0 g1 g2 u0 u1 u2
    have hi3 : i < (l.set i (⟨xi, tnow, xs, ⟨ye, yn, yx⟩⟩ : Mc.Ses)).length := by rw [List.length_set]; exact hi
    have hgs : (l.set i (⟨xi, tnow, xs, ⟨ye, yn, yx⟩⟩ : Mc.Ses)).getD i sesK.zero = ⟨xi, tnow, xs, ⟨ye, yn, yx⟩⟩ := by rw [List.getD_eq_getElem?_getD, List.getElem?_eq_getElem hi3, List.getElem_set_self]; rfl
    have hls : (l.set i (⟨xi, tnow, xs, ⟨ye, yn, yx⟩⟩ : Mc.Ses)).length = l.length := List.length_set
    have hcell := fun j (hj : j < 6) => hrow3.cell hls.symm hi3 (j := j) hj
    rw [hgs] at hcell
    have e2 := hcell 2 (by decide)
    have e3 := hcell 3 (by decide)
    have e4 := hcell 4 (by decide)
    have e5 := hcell 5 (by decide)
    simp only [sesK, List.getElem?_cons_succ, List.getElem?_cons_zero] at e2 e3 e4 e5
    have g0 := hG3.cell 0
    have g1 := hG3.cell 1
    have g2 := hG3.cell 2
    have u0 := hG3.free 0
    have u1 := hG3.free 1
    have u2 := hG3.free 2
    simp only [List.getElem?_toArray, List.getElem?_cons_succ, List.getElem?_cons_zero] at g0 g1 g2
    have hrow3' : RowAt sesK 58 w3 0 (.slice (some ⟨g, 0, none⟩) l.length cap) (l.set i ⟨xi, tnow, xs, ⟨ye, yn, yx⟩⟩) := hrow3
    generalize l.set i (⟨xi, tnow, xs, ⟨ye, yn, yx⟩⟩ : Mc.Ses) = l2 at hrow3' HR
    clear hcell hgs hls hi3 hrow3
    by_cases hE : seq = xs
    · subst hE
      have dE : ((seq : Int) == (seq : Int)) = true := by simp
      by_cases hP : 0 < seq
      · have dP : decide (0 < (seq : Int)) = true := by simp; omega
        have HQ := Lib.hid (HR.out.trans (if_pos ⟨rfl, hP⟩))
        clear HR hsq hxs
        go_wp2_with fail
        have hV := sets_blk hG3 [.int .i64 ye, .int .u64 yn, .int .u64 yx] rfl
        have hW := sets_only (g := G) hO3 (fun h => by omega) [.int .i64 ye, .int .u64 yn, .int .u64 yx] 0
        have hW2 := sets_only (S := fun k => k = G) (g := G) (Only.refl _ w3) (fun _ => rfl) [.int .i64 ye, .int .u64 yn, .int .u64 yx] 0
        simp only [sets] at hV hW hW2
        refine bodyPost_ret (results_cell_tmp (P := Try.prog) rfl _ _ G _ _ _ _ rfl hV HFS.out rfl size_rep) rfl ?_
        exact ⟨by rw [HQ.out]; rfl, _, by rw [HQ.out]; exact ⟨⟨hB3.keeps hW2 htG, hrow3'.keeps hW2 hvG⟩, fun k hk => .inl hk, hW⟩⟩
      · obtain rfl : seq = 0 := by omega
        have HQ := Lib.hid (HR.out.trans ((if_neg (fun h => hP h.2)).trans (if_pos (.inr rfl))))
        clear HR hsq hxs hP dE
        go_wp2_with fail
        have hV := sets_blk hG3 [.int .i64 41, .int .u64 0, .int .u64 0] rfl
        have hW := sets_only (g := G) hO3 (fun h => by omega) [.int .i64 41, .int .u64 0, .int .u64 0] 0
        have hW2 := sets_only (S := fun k => k = G) (g := G) (Only.refl _ w3) (fun _ => rfl) [.int .i64 41, .int .u64 0, .int .u64 0] 0
        simp only [sets] at hV hW hW2
        refine bodyPost_ret (results_cell_tmp (P := Try.prog) rfl _ _ G _ _ _ _ rfl hV HFS.out rfl size_rep) rfl ?_
        exact ⟨by rw [HQ.out]; rfl, _, by rw [HQ.out]; exact ⟨⟨hB3.keeps hW2 htG, hrow3'.keeps hW2 hvG⟩, fun k hk => .inl hk, hW⟩⟩
    have dE : ((seq : Int) == (xs : Int)) = false := by simp; omega
    by_cases hM : xs + 1 < 18446744073709551616
    · by_cases hN : seq = xs + 1
      · subst hN
        have HQ := Lib.hid (HR.out.trans ((if_neg (fun h => hE h.1)).trans (if_neg (by rintro (h | h); exact h rfl; omega))))
        have dN : (((xs + 1 : Nat) : Int) != (xs : Int) + 1) = false := by simp
        have dZ : (((xs + 1 : Nat) : Int) == 0) = false := by simp; omega
        clear HR hE hsq
        go_wp2_with fail
        have hV := sets_blk hG3 [.int .i64 0, .int .u64 0, .int .u64 0] rfl
        have hW := sets_only (g := G) hO3 (fun h => by omega) [.int .i64 0, .int .u64 0, .int .u64 0] 0
        have hW2 := sets_only (S := fun k => k = G) (g := G) (Only.refl _ w3) (fun _ => rfl) [.int .i64 0, .int .u64 0, .int .u64 0] 0
        simp only [sets] at hV hW hW2
        refine bodyPost_ret (results_cell_tmp (P := Try.prog) rfl _ _ G _ _ _ _ rfl hV HFS.out rfl size_rep) rfl ?_
        exact ⟨by rw [HQ.out]; rfl, _, by rw [HQ.out]; exact ⟨⟨hB3.keeps hW2 htG, hrow3'.keeps hW2 hvG⟩, fun k hk => .inl hk, hW⟩⟩
      · have HQ := Lib.hid (HR.out.trans ((if_neg (fun h => hE h.1)).trans (if_pos (.inl hN))))
        have dN : ((seq : Int) != (xs : Int) + 1) = true := by simp; omega
        clear HR hE hN hsq
        go_wp2_with fail
        have hV := sets_blk hG3 [.int .i64 41, .int .u64 0, .int .u64 0] rfl
        have hW := sets_only (g := G) hO3 (fun h => by omega) [.int .i64 41, .int .u64 0, .int .u64 0] 0
        have hW2 := sets_only (S := fun k => k = G) (g := G) (Only.refl _ w3) (fun _ => rfl) [.int .i64 41, .int .u64 0, .int .u64 0] 0
        simp only [sets] at hV hW hW2
        refine bodyPost_ret (results_cell_tmp (P := Try.prog) rfl _ _ G _ _ _ _ rfl hV HFS.out rfl size_rep) rfl ?_
        exact ⟨by rw [HQ.out]; rfl, _, by rw [HQ.out]; exact ⟨⟨hB3.keeps hW2 htG, hrow3'.keeps hW2 hvG⟩, fun k hk => .inl hk, hW⟩⟩
    · obtain rfl : xs = 18446744073709551615 := by omega
      have HQ := Lib.hid (HR.out.trans ((if_neg (fun h => hE h.1)).trans (if_pos (.inl (by omega)))))
      have dX : ((seq : Int) == 18446744073709551615) = false := by simp; omega
      clear HR hE hM hxs hsq
      by_cases hZ : seq = 0
      · subst hZ
        go_wp2_with fail
        have hV := sets_blk hG3 [.int .i64 41, .int .u64 0, .int .u64 0] rfl
        have hW := sets_only (g := G) hO3 (fun h => by omega) [.int .i64 41, .int .u64 0, .int .u64 0] 0
        have hW2 := sets_only (S := fun k => k = G) (g := G) (Only.refl _ w3) (fun _ => rfl) [.int .i64 41, .int .u64 0, .int .u64 0] 0
        simp only [sets] at hV hW hW2
        refine bodyPost_ret (results_cell_tmp (P := Try.prog) rfl _ _ G _ _ _ _ rfl hV HFS.out rfl size_rep) rfl ?_
        exact ⟨by rw [HQ.out]; rfl, _, by rw [HQ.out]; exact ⟨⟨hB3.keeps hW2 htG, hrow3'.keeps hW2 hvG⟩, fun k hk => .inl hk, hW⟩⟩
      · have dZ : ((seq : Int) != 0) = true := by simp; omega
        have dZ2 : ((seq : Int) == 0) = false := by simp; omega
        clear hZ
        go_wp2_with fail
        have hV := sets_blk hG3 [.int .i64 41, .int .u64 0, .int .u64 0] rfl
        have hW := sets_only (g := G) hO3 (fun h => by omega) [.int .i64 41, .int .u64 0, .int .u64 0] 0
        have hW2 := sets_only (S := fun k => k = G) (g := G) (Only.refl _ w3) (fun _ => rfl) [.int .i64 41, .int .u64 0, .int .u64 0] 0
        simp only [sets] at hV hW hW2
        refine bodyPost_ret (results_cell_tmp (P := Try.prog) rfl _ _ G _ _ _ _ rfl hV HFS.out rfl size_rep) rfl ?_
        exact ⟨by rw [HQ.out]; rfl, _, by rw [HQ.out]; exact ⟨⟨hB3.keeps hW2 htG, hrow3'.keeps hW2 hvG⟩, fun k hk => .inl hk, hW⟩⟩
end Go.Proofs.Ytogeeeigfhmpmaa

/- session.Table's End: the reply to a session's newest command is kept. -/
namespace Go.Proofs.Ytogeeeigfhmpmaa
open Go.RowKit
set_option maxRecDepth 100000

theorem ses_set {l : List Mc.Ses} {i : Nat} (hi : i < l.length) (a : Mc.Ses) : (l.set i a).getD i sesK.zero = a := by
  rw [List.getD_eq_getElem?_getD, List.getElem?_eq_getElem (by rw [List.length_set]; exact hi), List.getElem_set_self]; rfl
theorem ses_write4 {w : World} {g cap i : Nat} {l : List Mc.Ses} (h : RowAt sesK 58 w 0 (.slice (some ⟨g, 0, none⟩) l.length cap) l) (hi : i < l.length) {xi xu xs : Nat} {xr : Mc.Rep} (hx : l.getD i sesK.zero = ⟨xi, xu, xs, xr⟩) (s : Nat) (y : Mc.Rep) :
    RowAt sesK 58 ((((w.setCell ⟨g, i * 6 + 2, none⟩ (.int .u64 s)).setCell ⟨g, i * 6 + 3, none⟩ (.int .i64 y.err)).setCell ⟨g, i * 6 + 3 + 1, none⟩ (.int .u64 y.num)).setCell ⟨g, i * 6 + 3 + 1 + 1, none⟩ (.int .u64 y.extra)) 0 (.slice (some ⟨g, 0, none⟩) l.length cap) (l.set i ⟨xi, xu, s, y⟩) := by
  have h2 := h.write rfl hi (j := 2) (by decide) ⟨xi, xu, s, xr⟩ (.int .u64 s) (by rw [hx]; rfl)
  have h3 := h2.write (by rw [List.length_set]) (by rw [List.length_set]; exact hi) (j := 3) (by decide) ⟨xi, xu, s, ⟨y.err, xr.num, xr.extra⟩⟩ (.int .i64 y.err) (by rw [ses_set hi]; rfl)
  rw [List.set_set] at h3
  have h4 := h3.write (by rw [List.length_set]) (by rw [List.length_set]; exact hi) (j := 4) (by decide) ⟨xi, xu, s, ⟨y.err, y.num, xr.extra⟩⟩ (.int .u64 y.num) (by rw [ses_set hi]; rfl)
  rw [List.set_set] at h4
  have h5 := h4.write (by rw [List.length_set]) (by rw [List.length_set]; exact hi) (j := 5) (by decide) ⟨xi, xu, s, ⟨y.err, y.num, y.extra⟩⟩ (.int .u64 y.extra) (by rw [ses_set hi]; rfl)
  rw [List.set_set] at h5
  exact h5
set_option maxHeartbeats 4000000 in
theorem tend_at (w : World) (tb : Nat) (v : Value) (t : Mc.Tab) (h : TabAt w tb v t) (hlen : t.rows.length ≤ 16) (id seq : Nat) (y : Mc.Rep) (i : Nat) (hf : Mc.find t.rows id = some i) (hs : (t.rows.getD i ⟨0, 0, 0, ⟨0, 0, 0⟩⟩).seq + 1 = seq) (hsq : seq < 18446744073709551616) :
    Calls Try.prog 32 #[.pointer (some ⟨tb, 0, none⟩), .int .u64 id, .int .u64 seq, repV y] w fun e w' => e = .returned (.bool true) ∧ ∃ v', TabTo tb v (t.end_ id seq y) w w' v' := by
  obtain ⟨err, yn, yx⟩ := y
  show Calls Try.prog 32 #[.pointer (some ⟨tb, 0, none⟩), .int .u64 id, .int .u64 seq, .agg #[.int .i64 err, .int .u64 yn, .int .u64 yx]] w _
  obtain ⟨he, hi⟩ := findV_some hf
  obtain ⟨⟨xi, xu, xs, xr⟩, hx⟩ : ∃ x, t.rows.getD i ⟨0, 0, 0, ⟨0, 0, 0⟩⟩ = x := ⟨_, rfl⟩
  have HR := Lib.hid (end_some (seq := seq) (y := ⟨err, yn, yx⟩) hf hx hi)
  rw [hx] at hs
  simp only at hs
  subst hs
  have htl := h.blk.lt
  have hapt := h.apart
  go_enter Try.func32, Try.ntmps32
  go_upto_region 1 with fail
  have hS := Blk.made w #[.int .i64 err, .int .u64 yn, .int .u64 yx] 34
  have hO := (Only.refl NoBlock w).alloc (Obj.cells #[.int .i64 err, .int .u64 yn, .int .u64 yx] 34)
  have hT := h.keepsN hO
  have hvS : ∀ k, v.ownBlock = some k → k ≠ w.heap.size := fun k hk e => by have := (h.row.ofT hk).lt; omega
  generalize w.alloc (Obj.cells #[.int .i64 err, .int .u64 yn, .int .u64 yx] 34) = w1 at hS hO hT ⊢
  generalize hSe : w.heap.size = S at hS hvS ⊢
  clear h
  go_wp2_with fail
  refine (sfind_at w1 tb v t hT hlen id).mono ?_
  rintro e w2 ⟨rfl, hO2⟩
  rw [he]
  have hT2 := hT.keepsN hO2
  have hS2 := hS.keeps hO2 (fun h => h)
  have hO2' := hO.trans hO2
  obtain ⟨tnow, next, l⟩ := t
  simp only at hi HR hx hlen
  clear he hf hT hS hO hO2 hSe
  obtain ⟨hB, hrow⟩ := hT2
  simp only at hB hrow
  obtain ⟨g, cap, rfl, _, hlc, hcm, hgl⟩ := hrow.shapeG (by omega)
  have hgS : g ≠ S := hvS g rfl
  have htg : g ≠ tb := hapt g rfl
  have hgx : l.getD i sesK.zero = ⟨xi, xu, xs, xr⟩ := hx
  have hcell := fun j (hj : j < 6) => hrow.cell rfl hi (j := j) hj
  rw [hgx] at hcell
  have e2 := hcell 2 (by decide)
  have e3 := hcell 3 (by decide)
  have e4 := hcell 4 (by decide)
  have e5 := hcell 5 (by decide)
  simp only [sesK, List.getElem?_cons_succ, List.getElem?_cons_zero] at e2 e3 e4 e5
  have q2 := hrow.free rfl (i * 6 + 2)
  have q3 := hrow.free rfl (i * 6 + 3)
  have q4 := hrow.free rfl (i * 6 + 4)
  have q5 := hrow.free rfl (i * 6 + 5)
  have c2 := hB.cell 2
  have s0 := hS2.cell 0
  have s1 := hS2.cell 1
  have s2 := hS2.cell 2
  simp only [List.getElem?_toArray, List.getElem?_cons_succ, List.getElem?_cons_zero] at c2 s0 s1 s2
  have hil : decide (i < l.length) = true := by simpa using hi
  have hi0 : ¬ ((i : Int) < 0) := by omega
  have dZ : (((xs + 1 : Nat) : Int) == 0) = false := by simp; omega
  have dN : (((xs + 1 : Nat) : Int) != (xs : Int) + 1) = false := by simp
  have dZ2 : ((xs : Int) + 1 == 0) = false := by simp; omega
  have hxs : xs + 1 ≤ 18446744073709551615 := by omega
  have HX := Lib.hid hgx
  clear hgx hx hcell hvS
  go_upto_region 4 with fail
  go_region
  all_goals (go_wp2_with fail)
  all_goals
    go_ret
    have hrow' := ses_write4 hrow hi HX.out (xs + 1) ⟨err, yn, yx⟩
    have hW : Only (fun k => k = g) w2 ((((w2.setCell ⟨g, i * 6 + 2, none⟩ (.int .u64 ((xs + 1 : Nat) : Int))).setCell ⟨g, i * 6 + 3, none⟩ (.int .i64 err)).setCell ⟨g, i * 6 + 3 + 1, none⟩ (.int .u64 yn)).setCell ⟨g, i * 6 + 3 + 1 + 1, none⟩ (.int .u64 yx)) := ((((Only.refl (fun k => k = g) w2).setCell (p := ⟨g, i * 6 + 2, none⟩) (fun _ => rfl) _).setCell (p := ⟨g, i * 6 + 3, none⟩) (fun _ => rfl) _).setCell (p := ⟨g, i * 6 + 3 + 1, none⟩) (fun _ => rfl) _).setCell (p := ⟨g, i * 6 + 3 + 1 + 1, none⟩) (fun _ => rfl) _
    have e1 : ((xs + 1 : Nat) : Int) = (xs : Int) + 1 := by omega
    rw [e1] at hrow' hW
    refine ⟨rfl, .slice (some ⟨g, 0, none⟩) l.length cap, ?_⟩
    rw [HR.out]
    have hB' := hB.keeps hW (fun e => htg e.symm)
    have hO' := hO2'.of_no.trans (hW.mono (T := fun k => k = tb ∨ (Value.slice (some ⟨g, 0, none⟩) l.length cap).ownBlock = some k) (fun k hk => .inr (by rw [hk]; rfl)))
    exact ⟨⟨hB'.drew, hrow'.keepsN ((Only.refl NoBlock _).drew)⟩, fun k hk => .inl hk, hO'.drew⟩
end Go.Proofs.Ytogeeeigfhmpmaa

/- machine.Machine's Apply: a committed command, and its reply. -/
namespace Go.Proofs.Ytogeeeigfhmpmaa
open Go.RowKit
set_option maxRecDepth 100000

/-- block p is a machine: its table tb (row v), its map mb -/
structure MachAt (w : World) (p tb mb : Nat) (v : Value) (m : Mc.Mach) : Prop where
  blk : Blk w p #[.pointer (some ⟨tb, 0, none⟩), .map (some mb)] 72
  tab : TabAt w tb v m.tab
  sgs : SgsAt w mb m.sagas m.ids.length
/-- what a call may write -/
def MachS (tb mb : Nat) (v : Value) : Nat → Prop := fun k => k = tb ∨ k = mb ∨ v.ownBlock = some k
structure MachTo (p tb mb : Nat) (v : Value) (m' : Mc.Mach) (w w' : World) (v' : Value) : Prop where
  at_ : MachAt w' p tb mb v' m'
  row : ∀ k, v'.ownBlock = some k → v.ownBlock = some k ∨ w.heap.size ≤ k
  only : Only (MachS tb mb v) w w'
section
variable {w w' : World} {p tb mb : Nat} {v v' : Value} {m : Mc.Mach}
theorem MachAt.keeps {S : Nat → Prop} (h : MachAt w p tb mb v m) (ho : Only S w w') (h1 : ¬ S p) (h2 : ¬ S tb) (h3 : ¬ S mb) (h4 : ∀ k, v.ownBlock = some k → ¬ S k) (h5 : ∀ k, S k → ¬ OfT w k 38) : MachAt w' p tb mb v m :=
  ⟨h.blk.keeps ho h1, h.tab.keeps ho h2 h4, h.sgs.keeps ho h3 h5⟩
theorem MachAt.keepsN (h : MachAt w p tb mb v m) (ho : Only NoBlock w w') : MachAt w' p tb mb v m := ⟨h.blk.keeps ho (fun h => h), h.tab.keepsN ho, h.sgs.keepsN ho⟩
theorem MachAt.nS (h : MachAt w p tb mb v m) : ∀ k, MachS tb mb v k → ¬ OfT w k 38 := by
  intro k hk ht
  rcases hk with rfl | rfl | hk
  · exact ht.ne_blk h.tab.blk (by decide) rfl
  · exact h.sgs.not_ofT _ ht
  · exact (h.tab.row.ofT hk).ne ht (by decide) rfl
theorem MachAt.ptb (h : MachAt w p tb mb v m) : p ≠ tb := h.blk.ofT.ne_blk h.tab.blk (by decide)
theorem MachAt.pmb (h : MachAt w p tb mb v m) : p ≠ mb := h.sgs.ofT_ne h.blk.ofT
theorem MachAt.tmb (h : MachAt w p tb mb v m) : tb ≠ mb := h.sgs.ofT_ne h.tab.blk.ofT
theorem MachAt.vp (h : MachAt w p tb mb v m) : ∀ k, v.ownBlock = some k → k ≠ p ∧ k ≠ tb ∧ k ≠ mb := fun k hk => ⟨(h.tab.row.ofT hk).ne_blk h.blk (by decide), h.tab.apart k hk, h.sgs.ofT_ne (h.tab.row.ofT hk)⟩
/-- the table has been turned -/
theorem MachAt.tabTo {t' : Mc.Tab} (h : MachAt w p tb mb v m) (ht : TabTo tb v t' w w' v') : MachAt w' p tb mb v' ⟨t', m.ids, m.sagas⟩ ∧ Only (MachS tb mb v) w w' := by
  have hS : ∀ k, (k = tb ∨ v.ownBlock = some k) → ¬ OfT w k 38 := fun k hk => h.nS k (hk.elim .inl (fun e => .inr (.inr e)))
  exact ⟨⟨h.blk.keeps ht.only (fun e => e.elim h.ptb (fun e => (h.vp p e).1 rfl)), ht.tab, h.sgs.keeps ht.only (fun e => e.elim (fun e => h.tmb e.symm) (fun e => (h.vp mb e).2.2 rfl)) hS⟩, ht.only.mono (fun k hk => hk.elim .inl (fun e => .inr (.inr e)))⟩
/-- the map has been turned -/
theorem MachAt.mapTo {ids : List Nat} {f : Mc.Sgs} (h : MachAt w p tb mb v m) (hs : SgsAt w' mb f ids.length) (ho : Only (fun k => k = mb) w w') : MachAt w' p tb mb v ⟨m.tab, ids, f⟩ ∧ Only (MachS tb mb v) w w' :=
  ⟨⟨h.blk.keeps ho h.pmb, h.tab.keeps ho h.tmb (fun k hk => (h.vp k hk).2.2), hs⟩, ho.mono (fun _ hk => .inr (.inl hk))⟩
end
def MachEnd (p tb mb : Nat) (v : Value) (m' : Mc.Mach) (y : Mc.Rep) (w : World) (e : Ending) (w' : World) : Prop := e = .returned (repV y) ∧ ∃ v', MachTo p tb mb v m' w w' v'
/-- two calls on one machine -/
theorem Only.andMach {tb mb : Nat} {v v' : Value} {a b c : World} (h : Only (MachS tb mb v) a b) (k : Only (MachS tb mb v') b c) (hr : ∀ j, v'.ownBlock = some j → v.ownBlock = some j ∨ a.heap.size ≤ j) : Only (MachS tb mb v) a c :=
  h.andThen k (fun i hi hk => by
    rcases hk with rfl | rfl | hk
    · exact .inl rfl
    · exact .inr (.inl rfl)
    · rcases hr i hk with h1 | h1
      · exact .inr (.inr h1)
      · omega)
section
variable {w W W' : World} {p tb mb : Nat} {v v1 v2 : Value} {m : Mc.Mach}
theorem MachTo.refl (h : MachAt w p tb mb v m) : MachTo p tb mb v m w w v := ⟨h, fun _ hk => .inl hk, Only.refl _ _⟩
theorem MachTo.trans {v0 : Value} {m' m'' : Mc.Mach} (h : MachTo p tb mb v0 m' w W v1) (k : MachTo p tb mb v1 m'' W W' v2) : MachTo p tb mb v0 m'' w W' v2 := by
  refine ⟨k.at_, fun j hj => ?_, h.only.andMach k.only h.row⟩
  rcases k.row j hj with h3 | h3
  · exact h.row j h3
  · exact .inr (Nat.le_trans h.only.size h3)
theorem MachTo.fresh {w0 : World} {v0 : Value} {m' : Mc.Mach} (ho : Only NoBlock w0 w) (h : MachTo p tb mb v0 m' w W v1) (h1 : w0.heap.size ≤ tb) (h2 : w0.heap.size ≤ mb) (h3 : ∀ k, v0.ownBlock = some k → w0.heap.size ≤ k) : Only NoBlock w0 W :=
  ho.andThen h.only (fun i hi hk => by
    rcases hk with rfl | rfl | hk
    · omega
    · omega
    · have := h3 i hk; omega)
theorem MachTo.stepN (h : MachTo p tb mb v m w W v1) (ho : Only NoBlock W W') : MachTo p tb mb v m w W' v1 := ⟨h.at_.keepsN ho, h.row, h.only.trans ho.of_no⟩
theorem MachTo.stepT {v0 : Value} {m' : Mc.Mach} {t' : Mc.Tab} (h : MachTo p tb mb v0 m' w W v1) (ht : TabTo tb v1 t' W W' v2) : MachTo p tb mb v0 ⟨t', m'.ids, m'.sagas⟩ w W' v2 := by
  obtain ⟨h1, h2⟩ := h.at_.tabTo ht
  refine ⟨h1, fun k hk => ?_, h.only.andMach h2 h.row⟩
  rcases ht.row k hk with h3 | h3
  · exact h.row k h3
  · exact .inr (Nat.le_trans h.only.size h3)
theorem MachTo.stepM {v0 : Value} {m' : Mc.Mach} {ids : List Nat} {f : Mc.Sgs} (h : MachTo p tb mb v0 m' w W v1) (hs : SgsAt W' mb f ids.length) (ho : Only (fun k => k = mb) W W') : MachTo p tb mb v0 ⟨m'.tab, ids, f⟩ w W' v1 := by
  obtain ⟨h1, h2⟩ := h.at_.mapTo hs ho
  exact ⟨h1, h.row, h.only.andMach h2 h.row⟩
theorem MachTo.stepB {v0 : Value} {m' : Mc.Mach} {G : Nat} {cs : Array Value} {T : TypeId} (h : MachTo p tb mb v0 m' w W v1) (hG0 : w.heap.size ≤ G) (hG : Blk W G cs T) (h1 : T ≠ 72) (h2 : T ≠ 112) (h3 : T ≠ 58) (h4 : T ≠ 38) (ho : Only (fun k => k = G) W W') : MachTo p tb mb v0 m' w W' v1 := by
  refine ⟨h.at_.keeps ho (fun e => ?_) (fun e => ?_) (fun e => ?_) (fun k hk e => ?_) (fun k hk ht => ?_), h.row, h.only.andThen ho (fun i hi e => by omega)⟩
  · exact hG.ofT.ne_blk h.at_.blk (fun e => h1 e.symm) e.symm
  · exact hG.ofT.ne_blk h.at_.tab.blk (fun e => h2 e.symm) e.symm
  · exact h.at_.sgs.ofT_ne hG.ofT e.symm
  · exact (h.at_.tab.row.ofT hk).ne_blk hG h3 e
  · subst hk; exact ht.ne_blk hG h4 rfl
/-- a block of another type stays -/
theorem MachAt.keepBlk {G : Nat} {cs : Array Value} {T : TypeId} (h : MachAt W p tb mb v m) (hG : Blk W G cs T) (h2 : T ≠ 112) (h3 : T ≠ 58) (ho : Only (MachS tb mb v) W W') : Blk W' G cs T := by
  refine hG.keeps ho (fun e => ?_)
  rcases e with e | e | e
  · exact hG.ofT.ne_blk h.tab.blk (fun e => h2 e.symm) e
  · exact h.sgs.ofT_ne hG.ofT e
  · exact (h.tab.row.ofT e).ne_blk hG h3 rfl
theorem TabTo.mach {t' : Mc.Tab} (ht : TabTo tb v t' W W' v1) : Only (MachS tb mb v) W W' := ht.only.mono (fun _k hk => hk.elim .inl (fun e => .inr (.inr e)))
theorem Only.mapMach (ho : Only (fun k => k = mb) W W') : Only (MachS tb mb v) W W' := ho.mono (fun _ hk => .inr (.inl hk))
end
theorem outcome_tab (m : Mc.Mach) (c : Pk.Cmd) : (m.outcome c).1.tab = m.tab := by
  unfold Mc.Mach.outcome
  cases m.sagas c.saga with
  | none => rfl
  | some s =>
    dsimp only
    split <;> rfl
theorem do_tab (m : Mc.Mach) (c : Pk.Cmd) : (m.do_ c).1.tab = m.tab := by
  unfold Mc.Mach.do_
  split
  · cases m.sagas c.saga with
    | some s => rfl
    | none => dsimp only; split <;> rfl
  · split <;> cases m.sagas c.saga <;> rfl
theorem start_fresh {t : Mc.Tab} {id seq : Nat} (h : (t.start id seq).2.2 = true) : ∃ i, Mc.find (t.start id seq).1.rows id = some i ∧ ((t.start id seq).1.rows.getD i ⟨0, 0, 0, ⟨0, 0, 0⟩⟩).seq + 1 = seq := by
  unfold Mc.Tab.start at h ⊢
  cases hf : Mc.find t.rows id with
  | none => rw [hf] at h; simp at h
  | some i =>
    rw [hf] at h
    simp only at h ⊢
    obtain ⟨hi, hid⟩ := Mc.find_lt hf
    have hfu : Mc.find (Mc.used t.rows i t.now) id = some i := by
      unfold Mc.used
      unfold Mc.find at hf ⊢
      rw [List.findIdx?_eq_some_iff_getElem] at hf ⊢
      obtain ⟨hi', h1, h2⟩ := hf
      refine ⟨by rw [List.length_modify]; exact hi', ?_, fun j hj => ?_⟩
      · rw [List.getElem_modify]; simpa using h1
      · rw [List.getElem_modify, if_neg (by omega)]; exact h2 j hj
    have hsq : ((Mc.used t.rows i t.now).getD i ⟨0, 0, 0, ⟨0, 0, 0⟩⟩).seq = (t.rows.getD i ⟨0, 0, 0, ⟨0, 0, 0⟩⟩).seq := by
      unfold Mc.used
      rw [modify_set hi, List.getD_eq_getElem?_getD, List.getElem?_eq_getElem (by rw [List.length_set]; exact hi), List.getElem_set_self, List.getD_eq_getElem?_getD, List.getElem?_eq_getElem hi]
      rfl
    split at h
    · simp at h
    · rename_i h1
      split at h
      · simp at h
      · rename_i h2
        rw [if_neg h1, if_neg h2]
        refine ⟨i, hfu, ?_⟩
        show ((Mc.used t.rows i t.now).getD i ⟨0, 0, 0, ⟨0, 0, 0⟩⟩).seq + 1 = seq
        rw [hsq]
        by_cases e : seq = (t.rows.getD i ⟨0, 0, 0, ⟨0, 0, 0⟩⟩).seq + 1
        · exact e.symm
        · exact absurd (.inl e) h2

set_option maxHeartbeats 8000000 in
theorem apply_at (w : World) (p tb mb : Nat) (v : Value) (m : Mc.Mach) (hM : MachAt w p tb mb v m) (hk : m.Ok) (s : ByteArray) (hs : s.size ≤ 140737488351232) :
    Calls Try.prog 10 #[.pointer (some ⟨p, 0, none⟩), .string s] w (MachEnd p tb mb v (m.apply (nums s)).1 (m.apply (nums s)).2 w) := by
  obtain ⟨fs, hfs⟩ := u_rep
  have HFS := Lib.hid hfs
  clear hfs
  go_enter Try.func10, Try.ntmps10
  go_upto_region 3 with fail
  have hG := Blk.made w #[.int .i64 0, .int .u64 0, .int .u64 0] 34
  have hO := (Only.refl NoBlock w).alloc (Obj.cells #[.int .i64 0, .int .u64 0, .int .u64 0] 34)
  have hM1 := (MachTo.refl hM).stepN hO
  generalize w.alloc (Obj.cells #[.int .i64 0, .int .u64 0, .int .u64 0] 34) = w1 at hG hO hM1 ⊢
  have hG0 : w.heap.size ≤ w.heap.size := Nat.le_refl _
  generalize hGe : w.heap.size = G at hG ⊢
  have hG0 : w.heap.size ≤ G := by omega
  clear hGe
  go_wp2_with fail
  refine (decode_at w1 s hs).mono ?_
  rintro e w2 ⟨hO2, hend⟩
  have hG2 := hG.keeps hO2 (fun h => h)
  have hM2 := hM1.stepN hO2
  clear hG hM1 hO hO2
  rcases hend.symm with ⟨hd, rfl⟩ | ⟨c, ao, cap, hd, hsm, rfl, hrow⟩
  · have HA : RowKit.Hid (m.apply (nums s) = (m, ⟨2, 0, 0⟩)) := Lib.hid (by unfold Mc.Mach.apply; rw [hd])
    clear hd
    unfold cmd0
    have hC := (Only.refl NoBlock w2).alloc (Obj.cells #[.int .i64 0, .int .u64 0, .int .u64 0, .int .u64 0, .slice none 0 0, .int .i64 0, .bool false, .int .i64 0, .bool false, .int .u64 0] 31)
    go_upto_region 4 with fail
    have hM3 := hM2.stepN hC
    have hG3 := hG2.keeps hC (fun h => h)
    generalize w2.alloc (Obj.cells #[.int .i64 0, .int .u64 0, .int .u64 0, .int .u64 0, .slice none 0 0, .int .i64 0, .bool false, .int .i64 0, .bool false, .int .u64 0] 31) = w3 at hM3 hG3 ⊢
    clear hC hM2 hG2
    have g0 := hG3.cell 0
    have gf0 := hG3.free 0
    have g1 := hG3.cell 1
    have gf1 := hG3.free 1
    have g2 := hG3.cell 2
    have gf2 := hG3.free 2
    simp only [List.getElem?_toArray, List.getElem?_cons_succ, List.getElem?_cons_zero] at g0 g1 g2
    go_wp2_with fail
    have hV := rep_ret hG3 (.int .i64 2) (.int .u64 0) (.int .u64 0) rfl
    have hW := sets_only (S := fun k => k = G) (g := G) (Only.refl _ w3) (fun _ => rfl) [.int .i64 2, .int .u64 0, .int .u64 0] 0
    simp only [sets] at hW
    refine bodyPost_ret (results_cell_row (P := Try.prog) rfl _ _ G _ _ _ _ rfl hV HFS.out rfl size_rep) rfl ?_
    refine ⟨by rw [HA.out]; rfl, v, ?_⟩
    rw [HA.out]
    exact hM3.stepB hG0 hG3 (by decide) (by decide) (by decide) (by decide) hW
  have hmay := (Pk.dec_canon (nums_byte s) hd).2
  have hwf := Pk.dec_wf (nums_byte s) hd
  have hA0 : m.apply (nums s) = (if c.kind = 1 then (⟨(m.tab.clock c.now).register.1, m.ids, m.sagas⟩, ⟨(m.tab.clock c.now).register.2.2, (m.tab.clock c.now).register.2.1, 0⟩)
      else if c.kind = 4 then (⟨m.tab.clock c.now, m.ids, m.sagas⟩ : Mc.Mach).outcome c
      else if ((m.tab.clock c.now).start c.session c.seq).2.2 = false then (⟨((m.tab.clock c.now).start c.session c.seq).1, m.ids, m.sagas⟩, ((m.tab.clock c.now).start c.session c.seq).2.1)
      else (⟨((⟨((m.tab.clock c.now).start c.session c.seq).1, m.ids, m.sagas⟩ : Mc.Mach).do_ c).1.tab.end_ c.session c.seq ((⟨((m.tab.clock c.now).start c.session c.seq).1, m.ids, m.sagas⟩ : Mc.Mach).do_ c).2, ((⟨((m.tab.clock c.now).start c.session c.seq).1, m.ids, m.sagas⟩ : Mc.Mach).do_ c).1.ids, ((⟨((m.tab.clock c.now).start c.session c.seq).1, m.ids, m.sagas⟩ : Mc.Mach).do_ c).1.sagas⟩, ((⟨((m.tab.clock c.now).start c.session c.seq).1, m.ids, m.sagas⟩ : Mc.Mach).do_ c).2)) := by
    unfold Mc.Mach.apply
    rw [hd]
  have HA := Lib.hid hA0
  have HM := Lib.hid hmay
  have HW := Lib.hid hwf
  have hCk := hk.tab.clock hwf.now
  have hk1 : (⟨m.tab.clock c.now, m.ids, m.sagas⟩ : Mc.Mach).Ok := hk.tabbed hCk
  have hnow := hwf.now
  have hses := hwf.session
  have hsq := hwf.seq
  obtain ⟨k, a, b, sg, l, st, bk, tr, ok, now⟩ := c
  simp only at hrow hsm hnow hses hsq hCk hk1
  unfold cmdV
  clear hA0 hmay hwf hd
  go_upto_region 4 with fail
  have hC := (Only.refl NoBlock w2).alloc (Obj.cells #[.int .i64 (k : Int), .int .u64 a, .int .u64 b, .int .u64 sg, .slice ao l.length cap, .int .i64 st, .bool bk, .int .i64 tr, .bool ok, .int .u64 now] 31)
  have hB := Blk.made w2 #[.int .i64 (k : Int), .int .u64 a, .int .u64 b, .int .u64 sg, .slice ao l.length cap, .int .i64 st, .bool bk, .int .i64 tr, .bool ok, .int .u64 now] 31
  have hM3 := hM2.stepN hC
  have hG3 := hG2.keeps hC (fun h => h)
  have hr3 := hrow.keepsN hC
  have hC0 : w.heap.size ≤ w2.heap.size := hM2.only.size
  generalize w2.alloc (Obj.cells #[.int .i64 (k : Int), .int .u64 a, .int .u64 b, .int .u64 sg, .slice ao l.length cap, .int .i64 st, .bool bk, .int .i64 tr, .bool ok, .int .u64 now] 31) = w3 at hM3 hG3 hB hr3 ⊢
  generalize w2.heap.size = C at hB hC0 ⊢
  clear hC hM2 hG2 hrow
  have c9 := hB.cell 9
  have p0 := hM3.at_.blk.cell 0
  simp only [List.getElem?_toArray, List.getElem?_cons_succ, List.getElem?_cons_zero] at c9 p0
  go_upto_region 6 with fail
  refine wp_region_tail 6 (by kernel_rfl) (by kernel_rfl) ?_
  simp only [List.take_succ_cons, List.take_zero, List.drop_succ_cons, List.drop_zero]
  repeat still_step
  try refine wpStill_nil ?_
  have hD := (Only.refl NoBlock w3).drew
  have hM3d := hM3.stepN hD
  have hBd := Blk.drew hB
  have hGd := Blk.drew hG3
  have hrd := hr3.keepsN hD
  go_wp2_with fail
  refine (clock_at w3.drew tb v m.tab hM3d.at_.tab hk.tab now hnow).mono ?_
  rintro e w4 ⟨rfl, v1, hT⟩
  have hM4 := hM3d.stepT hT
  have hB4 := hM3d.at_.keepBlk hBd (by decide) (by decide) (hT.mach (mb := mb))
  have hG4 := hM3d.at_.keepBlk hGd (by decide) (by decide) (hT.mach (mb := mb))
  have hr4 := hrd.keepsT (hT.mach (mb := mb)) hM3d.at_.nS
  clear hD hM3d hBd hGd hrd hM3 hB hG3 hr3 c9 p0 hT
  have c0 := hB4.cell 0
  have c1 := hB4.cell 1
  have c2 := hB4.cell 2
  have c3 := hB4.cell 3
  have c4 := hB4.cell 4
  have c5 := hB4.cell 5
  have c6 := hB4.cell 6
  have c7 := hB4.cell 7
  have c8 := hB4.cell 8
  have c9 := hB4.cell 9
  simp only [List.getElem?_toArray, List.getElem?_cons_succ, List.getElem?_cons_zero] at c0 c1 c2 c3 c4 c5 c6 c7 c8 c9
  have p0 := hM4.at_.blk.cell 0
  simp only [List.getElem?_toArray, List.getElem?_cons_zero] at p0
  by_cases k1 : k = 1
  · subst k1
    have HA1 := Lib.hid (HA.out.trans (if_pos rfl))
    go_wp2_with fail
    refine (register_at w4 tb v1 _ hM4.at_.tab hCk).mono ?_
    rintro e w5 ⟨rfl, v2, hT5⟩
    have hM5 := hM4.stepT hT5
    have hG5 := hM4.at_.keepBlk hG4 (by decide) (by decide) (hT5.mach (mb := mb))
    have HA2 : RowKit.Hid (m.apply (nums s) = (⟨(m.tab.clock now).register.1, m.ids, m.sagas⟩, ⟨(m.tab.clock now).register.2.2, (m.tab.clock now).register.2.1, 0⟩)) := HA1
    clear HA1 HA hM4 hG4 hB4 hr4 hT5 p0
    clear c0 c1 c2 c3 c4 c5 c6 c7 c8 c9
    generalize (m.tab.clock now).register.2.2 = re at HA2 ⊢
    generalize (m.tab.clock now).register.2.1 = rn at HA2 ⊢
    have g0 := hG5.cell 0
    have gf0 := hG5.free 0
    have g1 := hG5.cell 1
    have gf1 := hG5.free 1
    have g2 := hG5.cell 2
    have gf2 := hG5.free 2
    simp only [List.getElem?_toArray, List.getElem?_cons_succ, List.getElem?_cons_zero] at g0 g1 g2
    go_wp2_with fail
    have hV := rep_ret hG5 (.int .i64 re) (.int .u64 (rn : Nat)) (.int .u64 0) rfl
    have hW := sets_only (S := fun k => k = G) (g := G) (Only.refl _ w5) (fun _ => rfl) [.int .i64 re, .int .u64 (rn : Nat), .int .u64 0] 0
    simp only [sets] at hW
    refine bodyPost_ret (results_cell_row (P := Try.prog) rfl _ _ G _ _ _ _ rfl hV HFS.out rfl size_rep) rfl ?_
    refine ⟨by rw [HA2.out]; rfl, v2, ?_⟩
    rw [HA2.out]
    exact hM5.stepB hG0 hG5 (by decide) (by decide) (by decide) (by decide) hW
  have d1 : ((k : Int) == 1) = false := by simp; omega
  by_cases k4 : k = 4
  · subst k4
    have HA1 := Lib.hid (HA.out.trans ((if_neg (by simp)).trans (if_pos rfl)))
    go_wp2_with fail
    refine (mout_at w4 p tb mb ⟨m.tab.clock now, m.ids, m.sagas⟩ hM4.at_.blk hM4.at_.sgs hk1 ⟨4, a, b, sg, l, st, bk, tr, ok, now⟩ ao cap hr4 HM.out HW.out rfl).mono ?_
    rintro e w5 ⟨rfl, hS5, hO5⟩
    have hout : ((⟨m.tab.clock now, m.ids, m.sagas⟩ : Mc.Mach).outcome ⟨4, a, b, sg, l, st, bk, tr, ok, now⟩).1.tab = m.tab.clock now := outcome_tab _ _
    have hM5 := hM4.stepM hS5 hO5
    have hG5 := hM4.at_.keepBlk hG4 (by decide) (by decide) (Only.mapMach hO5)
    obtain ⟨⟨xt, xi, xs⟩, ⟨ye, yn, yx⟩, hxy⟩ : ∃ x y, (⟨m.tab.clock now, m.ids, m.sagas⟩ : Mc.Mach).outcome ⟨4, a, b, sg, l, st, bk, tr, ok, now⟩ = (x, y) := ⟨_, _, rfl⟩
    rw [hxy] at hout hM5 ⊢
    have HA2 : RowKit.Hid (m.apply (nums s) = (⟨xt, xi, xs⟩, ⟨ye, yn, yx⟩)) := Lib.hid (HA1.out.trans hxy)
    simp only at hout hM5
    subst hout
    clear HA1 HA hM4 hG4 hB4 hr4 hS5 hO5 hxy p0
    clear c0 c1 c2 c3 c4 c5 c6 c7 c8 c9
    have g0 := hG5.cell 0
    have gf0 := hG5.free 0
    have g1 := hG5.cell 1
    have gf1 := hG5.free 1
    have g2 := hG5.cell 2
    have gf2 := hG5.free 2
    simp only [List.getElem?_toArray, List.getElem?_cons_succ, List.getElem?_cons_zero] at g0 g1 g2
    unfold repV
    go_wp2_with fail
    have hV := rep_ret hG5 (.int .i64 ye) (.int .u64 yn) (.int .u64 yx) rfl
    have hW := sets_only (S := fun k => k = G) (g := G) (Only.refl _ w5) (fun _ => rfl) [.int .i64 ye, .int .u64 yn, .int .u64 yx] 0
    simp only [sets] at hW
    refine bodyPost_ret (results_cell_row (P := Try.prog) rfl _ _ G _ _ _ _ rfl hV HFS.out rfl size_rep) rfl ?_
    refine ⟨by rw [HA2.out]; rfl, v1, ?_⟩
    rw [HA2.out]
    exact hM5.stepB hG0 hG5 (by decide) (by decide) (by decide) (by decide) hW
  have d4 : ((k : Int) == 4) = false := by simp; omega
  have HA1 := Lib.hid (HA.out.trans ((if_neg k1).trans (if_neg k4)))
  have HN1 := Lib.hid k1
  have HN4 := Lib.hid k4
  have hCs := hCk.start a b
  have hfr := start_fresh (t := m.tab.clock now) (id := a) (seq := b)
  obtain ⟨t1, ⟨ye, yn, yx⟩, fr, hst⟩ : ∃ t1 y fr, (m.tab.clock now).start a b = (t1, y, fr) := ⟨_, _, _, rfl⟩
  simp only [hst] at HA1
  rw [hst] at hCs hfr
  have HST := Lib.hid hst
  have HFR := Lib.hid hfr
  clear hst hfr HA k1 k4
  go_upto_region 13 with fail
  have hD1 : Only NoBlock w4 w4.drew := (Only.refl NoBlock w4).drew
  have hD2 : Only NoBlock w4 (w4.alloc (Obj.cells #[.int .i64 0, .int .u64 0, .int .u64 0] 34)).drew := ((Only.refl NoBlock w4).alloc _).drew
  have hMa := hM4.stepN hD1
  have hMb := hM4.stepN hD2
  have hBa := hB4.keeps hD1 (fun h => h)
  have hBb := hB4.keeps hD2 (fun h => h)
  have hGa := hG4.keeps hD1 (fun h => h)
  have hGb := hG4.keeps hD2 (fun h => h)
  have hra := hr4.keepsN hD1
  have hrb := hr4.keepsN hD2
  have hYb := Blk.drew (Blk.made w4 #[.int .i64 0, .int .u64 0, .int .u64 0] 34)
  have hY0 : w.heap.size ≤ w4.heap.size := hM4.only.size
  have hGY : ¬ G = w4.heap.size := by have := hG4.lt; omega
  have hCY : ¬ C = w4.heap.size := by have := hB4.lt; omega
  have b1 := hBb.cell 1
  have b2 := hBb.cell 2
  have q0 := hMb.at_.blk.cell 0
  simp only [List.getElem?_toArray, List.getElem?_cons_succ, List.getElem?_cons_zero] at b1 b2 q0
  go_cut [9, 10] (fun v9 v10 wx => ∃ (W : World) (Y : Nat) (v2 : Value), W = wx ∧ v9 = .pointer (some ⟨Y, 0, none⟩) ∧ v10 = .bool fr ∧ w.heap.size ≤ Y ∧ Y ≠ G ∧ Blk wx Y #[.int .i64 ye, .int .u64 yn, .int .u64 yx] 34 ∧ MachTo p tb mb v ⟨t1, m.ids, m.sagas⟩ w wx v2 ∧ Blk wx C #[.int .i64 (k : Int), .int .u64 a, .int .u64 b, .int .u64 sg, .slice ao l.length cap, .int .i64 st, .bool bk, .int .i64 tr, .bool ok, .int .u64 now] 31 ∧ Blk wx G #[.int .i64 0, .int .u64 0, .int .u64 0] 34 ∧ RowIn stpK 38 wx ao l)
  case first =>
    go_region_held3 (fun w' => w'.cell? ⟨p, 0, none⟩ = some (.pointer (some ⟨tb, 0, none⟩)) ∧ w'.cell? ⟨C, 1, none⟩ = some (.int .u64 a) ∧ w'.cell? ⟨C, 2, none⟩ = some (.int .u64 b))
      (first | with_reducible exact ⟨p0, c1, c2⟩ | with_reducible exact ⟨q0, b1, b2⟩ | with_reducible exact ⟨z0, z1, z2⟩ | go_keep)
      (first
        | (go_at_call 30; refine (start_at w4.drew tb v1 _ hMa.at_.tab hCk a b hsq).mono ?_; rintro e w5 ⟨rfl, v2, hT5⟩; rw [HST.out] at hT5; rw [HST.out]; unfold repV; have hM5 := hMa.stepT hT5; have hB5 := hMa.at_.keepBlk hBa (by decide) (by decide) (hT5.mach (mb := mb)); have hG5 := hMa.at_.keepBlk hGa (by decide) (by decide) (hT5.mach (mb := mb)); have hr5 := hra.keepsT (hT5.mach (mb := mb)) hMa.at_.nS; have hsz5 := hM5.only.size; have hsz6 := hT5.only.size; have b1 := hB5.cell 1; have b2 := hB5.cell 2; have q0 := hM5.at_.blk.cell 0; simp only [List.getElem?_toArray, List.getElem?_cons_succ, List.getElem?_cons_zero] at b1 b2 q0)
        | (go_at_call 30; refine (start_at _ tb v1 _ hMb.at_.tab hCk a b hsq).mono ?_; rintro e w5 ⟨rfl, v2, hT5⟩; rw [HST.out] at hT5; rw [HST.out]; unfold repV; have hM5 := hMb.stepT hT5; have hB5 := hMb.at_.keepBlk hBb (by decide) (by decide) (hT5.mach (mb := mb)); have hG5 := hMb.at_.keepBlk hGb (by decide) (by decide) (hT5.mach (mb := mb)); have hr5 := hrb.keepsT (hT5.mach (mb := mb)) hMb.at_.nS; have hsz5 := hM5.only.size; have hsz6 := hT5.only.size; have b1 := hB5.cell 1; have b2 := hB5.cell 2; have q0 := hM5.at_.blk.cell 0; simp only [List.getElem?_toArray, List.getElem?_cons_succ, List.getElem?_cons_zero] at b1 b2 q0; have hY5 := hMb.at_.keepBlk hYb (by decide) (by decide) (hT5.mach (mb := mb)); have y0 := hY5.cell 0; have y1 := hY5.cell 1; have y2 := hY5.cell 2; have yf0 := hY5.free 0; have yf1 := hY5.free 1; have yf2 := hY5.free 2; simp only [List.getElem?_toArray, List.getElem?_cons_succ, List.getElem?_cons_zero] at y0 y1 y2; have hZ : Only (fun k => k = w4.heap.size) w5 (((w5.setCell ⟨w4.heap.size, 0, none⟩ (.int .i64 ye)).setCell ⟨w4.heap.size, 1, none⟩ (.int .u64 yn)).setCell ⟨w4.heap.size, 2, none⟩ (.int .u64 yx)) := (((Only.refl (fun k => k = w4.heap.size) w5).setCell (p := ⟨w4.heap.size, 0, none⟩) (fun _ => rfl) _).setCell (p := ⟨w4.heap.size, 1, none⟩) (fun _ => rfl) _).setCell (p := ⟨w4.heap.size, 2, none⟩) (fun _ => rfl) _; have hM6 := hM5.stepB hY0 hY5 (by decide) (by decide) (by decide) (by decide) hZ; have hB6 := hB5.keeps hZ hCY; have hG6 := hG5.keeps hZ hGY; have hr6 := hr5.keepsT hZ (fun k hk => by subst hk; exact fun ht => ht.ne_blk hY5 (by decide) rfl); have hY6 := rep_ret hY5 (.int .i64 ye) (.int .u64 yn) (.int .u64 yx) rfl; have z1 := hB6.cell 1; have z2 := hB6.cell 2; have z0 := hM6.at_.blk.cell 0; simp only [List.getElem?_toArray, List.getElem?_cons_succ, List.getElem?_cons_zero] at z1 z2 z0))
    · have hA5 := (Only.refl NoBlock w5).alloc (Obj.cells #[.int .i64 ye, .int .u64 yn, .int .u64 yx] 34)
      have hGn : ¬ w5.heap.size = G := by have := hG5.lt; omega
      go_wp2_with fail
      go_meet
      exact ⟨_, w5.heap.size, v2, rfl, rfl, rfl, hsz5, hGn, Blk.made w5 _ _, hM5.stepN hA5, hB5.keeps hA5 (fun h => h), hG5.keeps hA5 (fun h => h), hr5.keepsN hA5⟩
    · go_wp2_with fail
      go_meet
      exact ⟨_, w4.heap.size, v2, rfl, rfl, rfl, hY0, fun e => hGY e.symm, hY6, hM6, hB6, hG6, hr6⟩
  case rest =>
    obtain ⟨wx, Y, v2, rfl, rfl, rfl, hY0, hYG, hY, hM5, hB5, hG5, hr5⟩ := hcut
    clear hMa hMb hBa hBb hGa hGb hra hrb hYb hD1 hD2 b1 b2 q0 p0 hM4 hB4 hG4 hr4 hGY hCY
    clear c0 c1 c2 c3 c4 c5 c6 c7 c8 c9
    have y0 := hY.cell 0
    have yf0 := hY.free 0
    have y1 := hY.cell 1
    have yf1 := hY.free 1
    have y2 := hY.cell 2
    have yf2 := hY.free 2
    simp only [List.getElem?_toArray, List.getElem?_cons_succ, List.getElem?_cons_zero] at y0 y1 y2
    cases fr with
    | false =>
      have HA2 := Lib.hid (HA1.out.trans (if_pos rfl))
      clear HA1
      have g0 := hG5.cell 0
      have gf0 := hG5.free 0
      have g1 := hG5.cell 1
      have gf1 := hG5.free 1
      have g2 := hG5.cell 2
      have gf2 := hG5.free 2
      simp only [List.getElem?_toArray, List.getElem?_cons_succ, List.getElem?_cons_zero] at g0 g1 g2
      go_wp2_with fail
      have hV := rep_ret hG5 (.int .i64 ye) (.int .u64 yn) (.int .u64 yx) rfl
      have hW := sets_only (S := fun k => k = G) (g := G) (Only.refl _ wx) (fun _ => rfl) [.int .i64 ye, .int .u64 yn, .int .u64 yx] 0
      simp only [sets] at hW
      refine bodyPost_ret (results_cell_row (P := Try.prog) rfl _ _ G _ _ _ _ rfl hV HFS.out rfl size_rep) rfl ?_
      refine ⟨by rw [HA2.out]; rfl, v2, ?_⟩
      rw [HA2.out]
      exact hM5.stepB hG0 hG5 (by decide) (by decide) (by decide) (by decide) hW
    | true =>
      obtain ⟨fi, hfi, hfs2⟩ := HFR.out rfl
      have hk2 : (⟨t1, m.ids, m.sagas⟩ : Mc.Mach).Ok := hk.tabbed hCs.1
      have HA2 := Lib.hid (HA1.out.trans (if_neg (by simp)))
      clear HA1
      have c0 := hB5.cell 0
      have c1 := hB5.cell 1
      have c2 := hB5.cell 2
      have c3 := hB5.cell 3
      have c4 := hB5.cell 4
      have c5 := hB5.cell 5
      have c6 := hB5.cell 6
      have c7 := hB5.cell 7
      have c8 := hB5.cell 8
      have c9 := hB5.cell 9
      simp only [List.getElem?_toArray, List.getElem?_cons_succ, List.getElem?_cons_zero] at c0 c1 c2 c3 c4 c5 c6 c7 c8 c9
      go_wp2_with fail
      refine (mdo_at wx p tb mb ⟨t1, m.ids, m.sagas⟩ hM5.at_.blk hM5.at_.sgs hk2 ⟨k, a, b, sg, l, st, bk, tr, ok, now⟩ ao cap hr5 HM.out HW.out HN1.out HN4.out).mono ?_
      rintro e w6 ⟨rfl, hS6, hO6⟩
      have hdt : ((⟨t1, m.ids, m.sagas⟩ : Mc.Mach).do_ ⟨k, a, b, sg, l, st, bk, tr, ok, now⟩).1.tab = t1 := do_tab _ _
      have hM6 := hM5.stepM hS6 hO6
      have hG6 := hM5.at_.keepBlk hG5 (by decide) (by decide) (Only.mapMach hO6)
      have hY6 := hM5.at_.keepBlk hY (by decide) (by decide) (Only.mapMach hO6)
      have hB6 := hM5.at_.keepBlk hB5 (by decide) (by decide) (Only.mapMach hO6)
      obtain ⟨⟨xt, xi, xs⟩, ⟨ze, zn, zx⟩, hxy⟩ : ∃ x y, (⟨t1, m.ids, m.sagas⟩ : Mc.Mach).do_ ⟨k, a, b, sg, l, st, bk, tr, ok, now⟩ = (x, y) := ⟨_, _, rfl⟩
      rw [hxy] at hdt hM6 ⊢
      simp only at hdt hM6
      subst hdt
      have HA3 : RowKit.Hid (m.apply (nums s) = (⟨xt.end_ a b ⟨ze, zn, zx⟩, xi, xs⟩, ⟨ze, zn, zx⟩)) := Lib.hid (HA2.out.trans (by simp only [hxy]))
      clear HA2 hM5 hG5 hB5 hr5 hY hS6 hO6 hxy
      clear c0 c1 c2 c3 c4 c5 c6 c7 c8 c9
      clear y0 y1 y2 yf0 yf1 yf2
      have y0 := hY6.cell 0
      have yf0 := hY6.free 0
      have y1 := hY6.cell 1
      have yf1 := hY6.free 1
      have y2 := hY6.cell 2
      have yf2 := hY6.free 2
      simp only [List.getElem?_toArray, List.getElem?_cons_succ, List.getElem?_cons_zero] at y0 y1 y2
      unfold repV
      go_upto_region 17 with fail
      have hZ : Only (fun k => k = Y) w6 (((w6.setCell ⟨Y, 0, none⟩ (.int .i64 ze)).setCell ⟨Y, 1, none⟩ (.int .u64 zn)).setCell ⟨Y, 2, none⟩ (.int .u64 zx)) := (((Only.refl (fun k => k = Y) w6).setCell (p := ⟨Y, 0, none⟩) (fun _ => rfl) _).setCell (p := ⟨Y, 1, none⟩) (fun _ => rfl) _).setCell (p := ⟨Y, 2, none⟩) (fun _ => rfl) _
      have hY7 := rep_ret hY6 (.int .i64 ze) (.int .u64 zn) (.int .u64 zx) rfl
      have hM7 := hM6.stepB hY0 hY6 (by decide) (by decide) (by decide) (by decide) hZ
      have hG7 := hG6.keeps hZ (fun e => hYG e.symm)
      have hB7 := hB6.keeps hZ (fun e => by subst e; exact hB6.ofT.ne_blk hY6 (by decide) rfl)
      generalize ((w6.setCell ⟨Y, 0, none⟩ (.int .i64 ze)).setCell ⟨Y, 1, none⟩ (.int .u64 zn)).setCell ⟨Y, 2, none⟩ (.int .u64 zx) = w7 at hY7 hM7 hG7 hB7 ⊢
      clear hZ hM6 hG6 hY6 hB6
      clear y0 y1 y2 yf0 yf1 yf2
      have y0 := hY7.cell 0
      have y1 := hY7.cell 1
      have y2 := hY7.cell 2
      simp only [List.getElem?_toArray, List.getElem?_cons_succ, List.getElem?_cons_zero] at y0 y1 y2
      have c1 := hB7.cell 1
      have c2 := hB7.cell 2
      have p0 := hM7.at_.blk.cell 0
      simp only [List.getElem?_toArray, List.getElem?_cons_succ, List.getElem?_cons_zero] at c1 c2 p0
      refine wp_region_tail 9 (by kernel_rfl) (by kernel_rfl) ?_
      simp only [List.take_succ_cons, List.take_zero, List.drop_succ_cons, List.drop_zero]
      repeat still_step
      try refine wpStill_nil ?_
      have hD := (Only.refl NoBlock w7).drew
      have hM7d := hM7.stepN hD
      have hGd := Blk.drew hG7
      have hYd := Blk.drew hY7
      go_wp2_with fail
      refine (tend_at w7.drew tb v2 xt hM7d.at_.tab hCs.1.len a b ⟨ze, zn, zx⟩ fi hfi hfs2 hsq).mono ?_
      rintro e w8 ⟨rfl, v3, hT8⟩
      have hM8 := hM7d.stepT hT8
      have hG8 := hM7d.at_.keepBlk hGd (by decide) (by decide) (hT8.mach (mb := mb))
      have hY8 := hM7d.at_.keepBlk hYd (by decide) (by decide) (hT8.mach (mb := mb))
      clear hD hM7d hGd hYd hM7 hG7 hY7 hB7 c1 c2 p0 hT8
      clear y0 y1 y2
      have y0 := hY8.cell 0
      have y1 := hY8.cell 1
      have y2 := hY8.cell 2
      simp only [List.getElem?_toArray, List.getElem?_cons_succ, List.getElem?_cons_zero] at y0 y1 y2
      have g0 := hG8.cell 0
      have gf0 := hG8.free 0
      have g1 := hG8.cell 1
      have gf1 := hG8.free 1
      have g2 := hG8.cell 2
      have gf2 := hG8.free 2
      simp only [List.getElem?_toArray, List.getElem?_cons_succ, List.getElem?_cons_zero] at g0 g1 g2
      go_wp2_with fail
      have hV := rep_ret hG8 (.int .i64 ze) (.int .u64 zn) (.int .u64 zx) rfl
      have hW := sets_only (S := fun k => k = G) (g := G) (Only.refl _ w8) (fun _ => rfl) [.int .i64 ze, .int .u64 zn, .int .u64 zx] 0
      simp only [sets] at hW
      refine bodyPost_ret (results_cell_row (P := Try.prog) rfl _ _ G _ _ _ _ rfl hV HFS.out rfl size_rep) rfl ?_
      refine ⟨by rw [HA3.out]; rfl, v3, ?_⟩
      rw [HA3.out]
      exact hM8.stepB hG0 hG8 (by decide) (by decide) (by decide) (by decide) hW
end Go.Proofs.Ytogeeeigfhmpmaa

/- machine.New: with nothing in it. -/
namespace Go.Proofs.Ytogeeeigfhmpmaa
open Go.RowKit
set_option maxRecDepth 100000

theorem Blk.made' (w : World) (n : Nat) (hn : n = w.heap.size) (cs : Array Value) (t : TypeId) : Blk (w.alloc (.cells cs t)) n cs t := by subst hn; exact Blk.made w cs t
theorem mnew_at (w : World) :
    Calls Try.prog 8 #[] w fun e w' => ∃ p tb mb, e = .returned (.pointer (some ⟨p, 0, none⟩)) ∧ MachAt w' p tb mb (.slice none 0 0) Mc.Mach.new ∧ Only NoBlock w w' ∧ w.heap.size ≤ p ∧ w.heap.size ≤ tb ∧ w.heap.size ≤ mb ∧ p < w'.heap.size := by
  have hmm := @run_makeMap Try.prog
  go_enter Try.func8, Try.ntmps8
  go_wp2_with fail
  refine (tnew_at w).mono ?_
  rintro e w1 ⟨rfl, hT, hO, hz⟩
  generalize hte : w.heap.size = tb at hT hz ⊢
  have htl := hT.blk.lt
  have hw1 : tb + 1 ≤ w1.heap.size := by omega
  clear hz
  go_wp2_with fail
  go_ret
  have hO1 := (Only.refl NoBlock w1).alloc (.map #[] 0)
  have hO2 := hO1.alloc (.cells #[.pointer (some ⟨tb, 0, none⟩), .map (some w1.heap.size)] 72)
  have hm := SgsAt.made w1
  have hB := Blk.made' (w1.alloc (.map #[] 0)) (w1.heap.size + 1) (by simp) #[.pointer (some ⟨tb, 0, none⟩), .map (some w1.heap.size)] 72
  refine ⟨_, tb, w1.heap.size, rfl, ⟨hB, hT.keepsN hO2, hm.keepsN ((Only.refl NoBlock _).alloc _)⟩, hO.trans hO2, by omega, by omega, by omega, by simp⟩
end Go.Proofs.Ytogeeeigfhmpmaa
