/- What Save and Anew write and leave, in plain data. -/
import Derived.Test.YtekmjhenhgmpgaaStoreO
namespace Go.Proofs.Ytekmjhenhgmpgaa
open Go.RowKit
set_option maxRecDepth 100000

theorem Strs.apart {w : World} {base p : Nat} {v : Value} {l : List ByteArray} {cs : Array Value} {t : TypeId} (h : Strs w base v l) (hb : Blk w p cs t) (ht : t ≠ 9) : v.ownBlock ≠ some p := by
  rcases h.2 with ⟨rfl, h0⟩ | ⟨g, cap, cur, rfl, _, hg, _⟩
  · simp [Value.ownBlock]
  · intro e
    have e' : g = p := by simpa [Value.ownBlock] using e
    subst e'
    unfold Blk at hb
    rw [hb] at hg
    cases hg
    exact ht rfl
theorem Strs.apartE {w : World} {b1 b2 : Nat} {v u : Value} {l : List ByteArray} {m : List Ent} (h : Strs w b1 v l) (he : Ents w b2 u m) : ∀ k, v.ownBlock = some k → u.ownBlock ≠ some k := by
  intro k hk hu
  rcases h.2 with ⟨rfl, h0⟩ | ⟨g, cap, cur, rfl, _, hg, _⟩
  · simp [Value.ownBlock] at hk
  · rcases he.1.2 with ⟨rfl, h0⟩ | ⟨g2, cap2, cur2, rfl, _, hg2, _⟩
    · simp [Value.ownBlock] at hu
    · have e1 : g = k := by simpa [Value.ownBlock] using hk
      have e2 : g2 = k := by simpa [Value.ownBlock] using hu
      subst e1; subst e2
      rw [hg] at hg2
      cases hg2

namespace Sto
def hardB (h : Hrd) : ByteArray := textOf (Rc.hard h)
def entB (e : Ent) : ByteArray := textOf (Rc.entry e)
def cutB (i : Nat) : ByteArray := textOf (Rc.cut i)
def snapB (s : Snp) : ByteArray := textOf (Rc.snap s)
def out0 (s : St) (h : Hrd) : List ByteArray := if h.term = s.hard.term ∧ h.vote = s.hard.vote then [] else [hardB h]
def out1 (s : St) (l : List Ent) : List ByteArray := if 0 < l.length ∧ (l.getD 0 Ent.zero).index ≤ Rl.lastI s.snap s.es then [cutB (l.getD 0 Ent.zero).index] else []
def out (s : St) (h : Hrd) (l : List Ent) : List ByteArray := out0 s h ++ out1 s l ++ l.map entB
def rightO : Option St → Option St
  | none => none
  | some s => if rightB s.hard s.snap s.es = true then some s else none
def saved (s : St) (h : Hrd) (l : List Ent) : Option St := rightO (said s (out s h l))
def saveE (M : DM) (n : Int) (s : St) (h : Hrd) (l : List Ent) : Int := match saved s h l with | none => 1 | some _ => if (out s h l).length = 0 then 0 else Wal.appE M n (out s h l)
def saveM (M : DM) (n : Int) (s : St) (h : Hrd) (l : List Ent) : DM := match saved s h l with | none => M | some _ => if (out s h l).length = 0 then M else Wal.app M n (out s h l)
def saveS (M : DM) (n : Int) (s : St) (h : Hrd) (l : List Ent) : St := match saved s h l with | none => s | some s' => if (out s h l).length = 0 then s else if Wal.appE M n (out s h l) = 0 then s' else s
/-- what Anew writes -/
def anewR (s : St) : List ByteArray := hardB s.hard :: snapB s.snap :: s.es.map entB
def anewOk (s : St) : Bool := rightB s.hard s.snap s.es && decide (s.snap.data.size ≤ 32768)
def anewE (M : DM) (n : Int) (s : St) : Int := if anewOk s = true then Wal.anewE M n (anewR s) else 1
def anewM (M : DM) (n : Int) (s : St) : DM := if anewOk s = true then Wal.anew M n (anewR s) else M
def anewS (M : DM) (n : Int) (old s : St) : St := if anewOk s = true then (if Wal.anewE M n (anewR s) = 0 then s else old) else old
end Sto
/-- what Save and Anew leave -/
def StoreEnd (k : Int) (M' : DM) (s' : St) (base t g d mb : Nat) (w : World) (e : Ending) (w' : World) : Prop :=
  e = .returned (.int .i64 k) ∧ DiskAt w' d mb M' ∧ StoreAt w' base t g s' ∧ Only (fun k => k = d ∨ k = mb ∨ k = t) w w'
theorem StoreAt.lower {w : World} {b b' t g : Nat} {s : St} (h : StoreAt w b t g s) (hb : b' ≤ b) : StoreAt w b' t g s := ⟨h.hard, h.snap, h.ex.choose, h.ex.choose_spec.1, h.ex.choose_spec.2.lower hb⟩
theorem StoreAt.keeps {S : Nat → Prop} {w w' : World} {b t g : Nat} {s : St} (h : StoreAt w b t g s) (ho : Only S w w') (ht : ¬ S t) (hr : ∀ k, b ≤ k → ¬ S k) : StoreAt w' b t g s :=
  ⟨h.hard, h.snap, h.ex.choose, h.ex.choose_spec.1.keeps ho ht, h.ex.choose_spec.2.keeps ho (fun k hk => hr k (World.ownsRow.lt h.ex.choose_spec.2.1 k hk).1)⟩
theorem StoreAt.lt {w : World} {b t g : Nat} {s : St} (h : StoreAt w b t g s) : t < w.heap.size := h.ex.choose_spec.1.lt
theorem StoreAt.apart {w : World} {b t g : Nat} {s : St} (h : StoreAt w b t g s) {p : Nat} {cs : Array Value} {ty : TypeId} (hb : Blk w p cs ty) (ht : ty ≠ 100) : t ≠ p := by
  intro e
  subst e
  obtain ⟨v, h1, -⟩ := h.ex
  unfold Blk at h1 hb
  rw [hb] at h1
  cases h1
  exact ht rfl
theorem StoreAt.apartM {w : World} {b t g d mb : Nat} {s : St} {M : DM} (h : StoreAt w b t g s) (hd : DiskAt w d mb M) : t ≠ d ∧ t ≠ mb := by
  constructor
  · exact h.apart hd.blk (by decide)
  · intro e
    obtain ⟨D, ⟨es, clock, hb, _⟩, _⟩ := hd.files
    obtain ⟨v, h1, -⟩ := h.ex
    unfold Blk at h1
    rw [← e, h1] at hb
    cases hb
theorem Ents.apartD {w : World} {base d mb : Nat} {v : Value} {l : List Ent} {M : DM} (h : Ents w base v l) (hd : DiskAt w d mb M) : ∀ k, v.ownBlock = some k → ¬ (k = d ∨ k = mb) := by
  intro k hk e
  rcases e with e | e
  · exact h.apart hd.blk (by decide) (by rw [hk, e])
  · obtain ⟨D, ⟨es, clock, hb, _⟩, _⟩ := hd.files
    rcases h.1.2 with ⟨rfl, h0⟩ | ⟨g, cap, cur, rfl, _, hg, _⟩
    · simp [Value.ownBlock] at hk
    · have e' : g = k := by simpa [Value.ownBlock] using hk
      rw [← e, ← e', hg] at hb
      cases hb
theorem StoreAt.keepsD {w w' : World} {b t g d mb : Nat} {s : St} {M : DM} (h : StoreAt w b t g s) (hd : DiskAt w d mb M) (ho : Only (fun k => k = d ∨ k = mb) w w') : StoreAt w' b t g s := by
  have ha := h.apartM hd
  obtain ⟨hh, hs, v, hB, hE⟩ := h
  exact ⟨hh, hs, v, hB.keeps ho (fun e => e.elim ha.1 ha.2), hE.keeps ho (hE.apartD hd)⟩
theorem StV.keeps {S : Nat → Prop} {w w' : World} {b p : Nat} {s : St} {v : Value} (h : StV w b p s v) (ho : Only S w w') (hp : ¬ S p) (hv : ∀ k, v.ownBlock = some k → ¬ S k) : StV w' b p s v :=
  ⟨h.from_, h.hard, h.snap, h.blk.keeps ho hp, h.row.keeps ho hv⟩
/-- a row of texts grows: the state's block and row stay -/
theorem StV.grown {w w' : World} {b b2 p : Nat} {s : St} {v u : Value} {l : List ByteArray} (h : StV w b p s v) (hs : Strs w b2 u l) (hg : w.grownBy w' u.ownBlock) : StV w' b p s v :=
  h.keeps (Only.of_grown hg) (fun e => hs.apart h.blk (by decide) e) (fun k hk e => hs.apartE h.row k e hk)
theorem wf_both {x : Int} (h : (Lit.int .i64 x).wf = true) : -9223372036854775808 ≤ x ∧ x ≤ 9223372036854775807 := by
  have hb := (by simpa [Lit.wf] using h : IntKind.i64.min ≤ x ∧ x ≤ 9223372036854775807)
  exact hb
end Go.Proofs.Ytekmjhenhgmpgaa
