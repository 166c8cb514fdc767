/- Sagas, sessions, the machine, in plain data (layers 14, 15, 17): what the program's calls make of them. -/
import Derived.Test.YtogeeeigfhmpmaaCmdM
namespace Go.Proofs.Ytogeeeigfhmpmaa
namespace Mc
open Pk
/-- a saga -/
structure Sg where
  steps : List Stp
  state : Int
  cursor : Int
  failed : Int
def budgetAt (s : Sg) : Int := ((s.steps.map (fun t => (t.budget : Int))).getD s.cursor.toNat 0)
def within (s : Sg) : Bool := decide (0 ≤ s.cursor) && decide (s.cursor < s.steps.length)
def sound (s : Sg) : Bool :=
  okSs s.steps && decide (0 ≤ s.failed) &&
  ((decide (s.state = 1) && within s && decide (s.failed = 0)) || (decide (s.state = 2) && within s && decide (s.failed < budgetAt s)) || (decide (s.state = 3) && decide (s.cursor = s.steps.length) && decide (s.failed = 0)) ||
   (decide (s.state = 4) && decide (s.cursor = 0) && decide (s.failed = 0)) || (decide (s.state = 5) && within s && decide (s.failed = budgetAt s)))
def fresh (l : List Stp) : Sg := ⟨l, 1, 0, 0⟩
def backTo (s : Sg) (step : Int) : Sg := if step < 0 then ⟨s.steps, 4, 0, 0⟩ else ⟨s.steps, 2, step, 0⟩
def abort (s : Sg) : Sg × Bool := if sound s = true ∧ s.state = 1 then (backTo s s.cursor, true) else (s, false)
def outcome (s : Sg) (step : Int) (taken : Bool) (try_ : Int) (ok : Bool) : Sg × Bool :=
  if sound s = true ∧ s.state ≤ 2 ∧ s.cursor = step ∧ taken = decide (s.state = 2) ∧ (ok = true ∨ try_ = s.failed) then
    (if taken = false ∧ ok = true then (if s.cursor + 1 = s.steps.length then ⟨s.steps, 3, s.cursor + 1, s.failed⟩ else ⟨s.steps, s.state, s.cursor + 1, s.failed⟩, true)
     else if taken = false ∨ ok = true then (backTo s (step - 1), true)
     else (⟨s.steps, if s.failed + 1 = budgetAt s then 5 else s.state, s.cursor, s.failed + 1⟩, true))
  else (s, false)
/-- an answer -/
structure Rep where
  err : Int
  num : Nat
  extra : Nat
def told (s : Sg) : Rep := ⟨0, s.state.toNat, s.cursor.toNat⟩
/-- a session -/
structure Ses where
  id : Nat
  used : Nat
  seq : Nat
  rep : Rep
structure Tab where
  now : Nat
  next : Nat
  rows : List Ses
def Tab.new : Tab := ⟨0, 1, []⟩
def Tab.clock (t : Tab) (now : Nat) : Tab := if now ≤ t.now then t else ⟨now, t.next, t.rows.filter (fun x => decide (now - x.used ≤ 1000))⟩
def Tab.register (t : Tab) : Tab × Nat × Int :=
  if 16 ≤ t.rows.length ∨ t.next = 18446744073709551615 then (t, 0, 11) else (⟨t.now, t.next + 1, t.rows ++ [⟨t.next, t.now, 0, ⟨0, 0, 0⟩⟩]⟩, t.next, 0)
def find (l : List Ses) (id : Nat) : Option Nat := l.findIdx? (fun x => decide (x.id = id))
def used (l : List Ses) (i now : Nat) : List Ses := l.modify i (fun x => { x with used := now })
/-- a session's command comes: what is answered, or that it is new -/
def Tab.start (t : Tab) (id seq : Nat) : Tab × Rep × Bool :=
  match find t.rows id with
  | none => (t, ⟨40, 0, 0⟩, false)
  | some i =>
    let t' : Tab := ⟨t.now, t.next, used t.rows i t.now⟩
    let x := t.rows.getD i ⟨0, 0, 0, ⟨0, 0, 0⟩⟩
    if seq = x.seq ∧ 0 < seq then (t', x.rep, false) else if seq ≠ x.seq + 1 ∨ seq = 0 then (t', ⟨41, 0, 0⟩, false) else (t', ⟨0, 0, 0⟩, true)
def Tab.end_ (t : Tab) (id seq : Nat) (y : Rep) : Tab :=
  match find t.rows id with
  | none => t
  | some i => ⟨t.now, t.next, t.rows.modify i (fun x => { x with seq := seq, rep := y })⟩
/-- sagas by number -/
def Sgs := Nat → Option Sg
def put (f : Sgs) (id : Nat) (s : Sg) : Sgs := fun i => if i = id then some s else f i
structure Mach where
  tab : Tab
  ids : List Nat
  sagas : Sgs
def Mach.new : Mach := ⟨Tab.new, [], fun _ => none⟩
def insert (l : List Nat) (id : Nat) : List Nat := l.takeWhile (fun i => decide (i < id)) ++ id :: l.dropWhile (fun i => decide (i < id))
/-- a session's command -/
def Mach.do_ (m : Mach) (c : Cmd) : Mach × Rep :=
  if c.kind = 2 then
    (match m.sagas c.saga with
     | some _ => (m, ⟨42, 0, 0⟩)
     | none => if 16 ≤ m.ids.length then (m, ⟨11, 0, 0⟩) else (⟨m.tab, insert m.ids c.saga, put m.sagas c.saga (fresh c.steps)⟩, told (fresh c.steps)))
  else if c.kind = 3 then
    (match m.sagas c.saga with
     | none => (m, ⟨43, 0, 0⟩)
     | some s => (⟨m.tab, m.ids, put m.sagas c.saga (abort s).1⟩, told (abort s).1))
  else
    (match m.sagas c.saga with
     | none => (m, ⟨43, 0, 0⟩)
     | some s => (m, told s))
def Mach.outcome (m : Mach) (c : Cmd) : Mach × Rep :=
  match m.sagas c.saga with
  | none => (m, ⟨43, 0, 0⟩)
  | some s => let x := Mc.outcome s c.step c.back c.try_ c.ok; if x.2 = true then (⟨m.tab, m.ids, put m.sagas c.saga x.1⟩, told x.1) else (m, ⟨41, 0, 0⟩)
def Mach.apply (m : Mach) (s : List Int) : Mach × Rep :=
  match dec s with
  | none => (m, ⟨2, 0, 0⟩)
  | some c =>
    let m1 : Mach := ⟨m.tab.clock c.now, m.ids, m.sagas⟩
    if c.kind = 1 then (let x := m1.tab.register; (⟨x.1, m1.ids, m1.sagas⟩, ⟨x.2.2, x.2.1, 0⟩))
    else if c.kind = 4 then m1.outcome c
    else
      let x := m1.tab.start c.session c.seq
      let m2 : Mach := ⟨x.1, m1.ids, m1.sagas⟩
      if x.2.2 = false then (m2, x.2.1)
      else let y := m2.do_ c; (⟨y.1.tab.end_ c.session c.seq y.2, y.1.ids, y.1.sagas⟩, y.2)
end Mc
end Go.Proofs.Ytogeeeigfhmpmaa
