/- The wheel's calls, as calls over a list of timers. -/
import Derived.Test.YtklpdkojffaiiaaWheelI
import Derived.Test.YtklpdkojffaiiaaTick
import Derived.Test.YtklpdkojffaiiaaNew
import Derived.Test.YtklpdkojffaiiaaWheelS
namespace Go.Proofs.Ytklpdkojffaiiaa
open Go.RowKit Go.Shelf
set_option maxRecDepth 100000

/-- the wheel at p holds the timers A -/
def WheelI (w : World) (base : Nat) (X : Nat → Prop) (p : Nat) (A : List Wh.Tm) (now : Nat) (turn : Int) : Prop :=
  ∃ r0 r1 r2 M, Wh.WheelAt w base X p r0 r1 r2 M ∧ Wh.Inv M A ∧ M.now = now ∧ M.turn = turn
section
variable {w w' : World} {base p now : Nat} {X : Nat → Prop} {A : List Wh.Tm} {turn : Int}
theorem WheelI.keeps (h : WheelI w base X p A now turn) (ho : Only NoBlock w w') : WheelI w' base X p A now turn := by
  obtain ⟨r0, r1, r2, M, h1, h2⟩ := h
  exact ⟨r0, r1, r2, M, h1.keeps ho, h2⟩
theorem WheelI.less {Y : Nat → Prop} (h : WheelI w base X p A now turn) (hy : ∀ b, Y b → X b) : WheelI w base Y p A now turn := by
  obtain ⟨r0, r1, r2, M, h1, h2⟩ := h
  exact ⟨r0, r1, r2, M, h1.less hy, h2⟩
theorem WheelI.more {Y : Nat → Prop} (h : WheelI w base X p A now turn) (ho : Only NoBlock w w') (hy : ∀ b, Y b → w.heap.size ≤ b ∧ b < w'.heap.size) : WheelI w' base (fun b => X b ∨ Y b) p A now turn := by
  obtain ⟨r0, r1, r2, M, h1, h2⟩ := h
  exact ⟨r0, r1, r2, M, h1.more ho hy, h2⟩
theorem WheelI.keepsX (h : WheelI w base X p A now turn) (ho : Only X w w') : WheelI w' base X p A now turn := by
  obtain ⟨r0, r1, r2, M, h1, h2⟩ := h
  exact ⟨r0, r1, r2, M, h1.keepsX ho, h2⟩
theorem WheelI.size (h : WheelI w base X p A now turn) : A.length ≤ 64 := by
  obtain ⟨r0, r1, r2, M, h1, h2, _⟩ := h
  exact h2.size
theorem WheelI.low (h : WheelI w base X p A now turn) : base ≤ w.heap.size := by
  obtain ⟨r0, r1, r2, M, h1, h2, _⟩ := h
  exact Wh.base_le h1
theorem WheelI.later (h : WheelI w base X p A now turn) {t : Wh.Tm} (ht : t ∈ A) : now < t.due := by
  obtain ⟨r0, r1, r2, M, h1, h2, rfl, _⟩ := h
  exact h2.now_lt ht
theorem WheelI.ids (h : WheelI w base X p A now turn) : (A.map (·.id)).Nodup := by
  obtain ⟨r0, r1, r2, M, h1, h2, _⟩ := h
  exact h2.ids
end
theorem new_i (w : World) : Calls Try.prog 10 #[] w fun e w' => ∃ p, e = .returned (.pointer (some ⟨p, 0, none⟩)) ∧ WheelI w' w.heap.size (fun _ => False) p [] 0 0 ∧ Only NoBlock w w' :=
  (new_at w).mono fun _ _ ⟨p, r0, r1, r2, he, h, ho⟩ => ⟨p, he, ⟨r0, r1, r2, _, h, Wh.Inv.nil, rfl, rfl⟩, ho⟩
section
variable (w : World) (base p now : Nat) (X : Nat → Prop) (A : List Wh.Tm) (turn : Int) (h : WheelI w base X p A now turn)
include h
theorem now_i : Calls Try.prog 20 #[.pointer (some ⟨p, 0, none⟩)] w fun e w' => e = .returned (.int .u64 now) ∧ w = w' := by
  obtain ⟨r0, r1, r2, M, h1, h2, rfl, rfl⟩ := h
  exact now_at w base X p r0 r1 r2 M h1
theorem len_i : Calls Try.prog 14 #[.pointer (some ⟨p, 0, none⟩)] w fun e w' => e = .returned (.int .i64 A.length) ∧ w = w' := by
  obtain ⟨r0, r1, r2, M, h1, h2, rfl, rfl⟩ := h
  rw [← h2.n]
  exact len_at w base X p r0 r1 r2 M h1
theorem set_i (id d : Int) (hid : (Lit.int .i64 id).wf = true) (hnow : now < 4611686018427387904) (ht : turn ≤ 1000000) :
    Calls Try.prog 11 #[.pointer (some ⟨p, 0, none⟩), .int .i64 id, .int .i64 d] w fun e w' => e = .returned (.int .i64 (Wh.setA A now turn id d).2.1) ∧ WheelI w' base X p (Wh.setA A now turn id d).1 now (Wh.setA A now turn id d).2.2 ∧ Only (fun k => base ≤ k ∧ ¬ X k) w w' := by
  obtain ⟨r0, r1, r2, M, h1, h2, rfl, rfl⟩ := h
  have hz := h2.size
  have hn := h2.n
  refine (set_at w base p r0 r1 r2 X M h1 id d hid hnow (by omega) (by omega) h2.t0 ht (fun q hq => by have := Wh.len_le_all M hq; have := h2.perm.length_eq; omega)).mono ?_
  rintro e w' ⟨c, M', rfl, hs, hw, ho⟩
  obtain ⟨e1, e2, e3, e4⟩ := h2.sets hs
  exact ⟨by rw [e1], ⟨r0, r1, r2, M', hw, e2, e3, e4⟩, ho⟩
theorem stop_i (id : Int) :
    Calls Try.prog 13 #[.pointer (some ⟨p, 0, none⟩), .int .i64 id] w fun e w' => e = .returned (.bool (Wh.hasA A id)) ∧ WheelI w' base X p (Wh.dropA A id) now turn ∧ Only (fun k => base ≤ k ∧ ¬ X k) w w' := by
  obtain ⟨r0, r1, r2, M, h1, h2, rfl, rfl⟩ := h
  have hz := h2.size
  have hn := h2.n
  refine (stop_at w base p r0 r1 r2 X M h1 id (by omega) (by omega)).mono ?_
  rintro e w' ⟨b, M', rfl, hs, hw, ho⟩
  obtain ⟨e1, e2, e3, e4⟩ := h2.stopped hs
  exact ⟨by rw [e1], ⟨r0, r1, r2, M', hw, e2, e3, e4⟩, ho⟩
theorem tick_i (hnow : now < 4611686018427387904) :
    Calls Try.prog 12 #[.pointer (some ⟨p, 0, none⟩)] w fun e w' => ∃ v : Value, e = .returned v ∧ Ints w' w.heap.size v ((Wh.dueA A (now + 1)).map (·.id)) ∧ WheelI w' base (fun b => X b ∨ v.ownBlock = some b) p (Wh.restA A (now + 1)) (now + 1) turn ∧ Only (fun k => base ≤ k ∧ ¬ X k) w w' := by
  obtain ⟨r0, r1, r2, M, h1, h2, rfl, rfl⟩ := h
  have hz := h2.size
  have hn := h2.n
  refine (tick_at w base p r0 r1 r2 X M h1 h2.at_ (by have := h2.perm.length_eq; omega) hnow (by omega) (by omega)).mono ?_
  rintro e w' ⟨M2, l, v, rfl, hm, hl, hso, hI, hw, ho⟩
  obtain ⟨rfl, e2⟩ := h2.ticks hm hl hso
  exact ⟨v, rfl, hI, ⟨r0, r1, r2, _, hw, e2, hm.now, hm.turn⟩, ho⟩
end
/-- what a list of numbers says: its length, its first -/
theorem Ints.first {w : World} {base : Nat} {v : Value} {l : List Int} (h : Ints w base v l) : ∃ ao cap, v = .slice ao l.length cap ∧ (∀ x r, l = x :: r → ∃ b off, ao = some ⟨b, off, none⟩ ∧ w.cell? ⟨b, off, none⟩ = some (.int .i64 x)) := by
  obtain ⟨ao, cap, rfl⟩ := h.shape
  refine ⟨ao, cap, rfl, fun x r e => ?_⟩
  subst e
  obtain ⟨b, off, e, hc⟩ := h.at' (k := 0) (by simp)
  exact ⟨b, off, e, by simpa using hc⟩
end Go.Proofs.Ytklpdkojffaiiaa
