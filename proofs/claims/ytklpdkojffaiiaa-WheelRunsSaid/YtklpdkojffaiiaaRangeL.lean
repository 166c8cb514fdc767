/- A range over a method value that yields one thing a round: a law, at the widest fence. -/
import Derived.RangeFuncNested
import Derived.RangeFuncBound
import Derived.RangeFuncCalls
import Derived.RangeFuncLeaves
import Derived.Shelf.Abstract
import Derived.WalkKit
import Derived.OwnWalkIn
import Derived.TacticsInMore
import Derived.LoopNIn
import Derived.LoopIn
namespace Go.Proofs.Ytklpdkojffaiiaa
open Go.RowKit Go.Shelf
set_option maxRecDepth 100000

/-- how a round of the body may be left -/
def RoundEnd (I : World → Prop) (Ix : Code → World → Prop) (W : World) : Exit → Act → World → Prop
  | .normal, _, W' => KeepsOthers W W' ∧ I W'
  | .ret, _, W' => KeepsOthers W W' ∧ Ix .ret W'
  | .exit id, _, W' => KeepsOthers W W' ∧ Ix (.exit id) W'
  | .goto t, _, W' => KeepsOthers W W' ∧ Ix (.goto t) W'
  | .panic _, _, _ => False
  | .outgrown, _, _ => False
/-- a thing said of worlds that stays where a block is laid, and where one beyond B that is no cells turns -/
structure Stays (B : Nat) (I : World → Prop) : Prop where
  put : ∀ {W : World} {l : Nat} {o : Obj} (o' : Obj), I W → B ≤ l → W.heap[l]? = some o → o.isCells = false → I (W.putObj l o')
  lay : ∀ {W : World} (o : Obj), I W → I (W.alloc o)

/-- what an iterator is: it yields Rv 0, Rv 1 .. Rv (Y - 1) as long as it is let; RG is what it reads between two rounds -/
def Iter (n : Nat) (P : Program) (gf : Nat) (first : Array Value) (Y : Nat) (Rv : Nat → Value) (RG : World → Prop) : Prop :=
  ∀ (l : Nat) (J : Nat → World → Prop) (Jx : World → Prop) (W : World), J 0 W → (∀ q W1, J q W1 → RG W1) →
    (∀ q W1, q < Y → J q W1 → YieldAt Fence.wide (n - 1) P l #[Rv q] W1 fun e W' => (e = .returned (.bool true) ∧ J (q + 1) W') ∨ (e = .returned (.bool false) ∧ Jx W')) →
    CallsIn Fence.wide n P gf (first ++ #[.func (.yield l) #[] #[]]) W fun e W' => (∃ v, e = .returned v) ∧ (J Y W' ∨ Jx W')

theorem range_law {n : Nat} {P : Program} {g : Operand} {p : Tmp} {assign body : Code} {Q : Exit → Act → World → Prop} {a : Act} {w : World} {gf : Nat} {first : Array Value}
    (hg : a.eval g = .func (.func gf) first #[]) (eg : ∀ args w, (callFunc gf args).run P w = .ok (.enter gf args) w) {Y : Nat} {Rv : Nat → Value} {RG : World → Prop} (hit : Iter (n - 1) P gf first Y Rv RG)
    (I : Nat → World → Prop) (Ix : Code → World → Prop) (hI : ∀ q, Stays w.heap.size (I q)) (hIx : ∀ c, Stays w.heap.size (Ix c)) (h0 : I 0 w) (hRG : ∀ q W, I q W → RG W) (a₁ : Nat → Act)
    (hassign : ∀ (l q : Nat) (W : World) (K : Act → World → Prop), K (a₁ q) W →
      assign.wpIn (Fence.wide.inRound l) (n - 1 - 1) P (Exit.then K (fun _ _ _ => False)) { tmps := a.tmps.setIfInBounds p (Rv q), defers := [] } W)
    (hbody : ∀ (l q : Nat) (W : World), q < Y → I q W → body.wpIn (Fence.wide.inRound l) (n - 1 - 1) P (RoundEnd (I (q + 1)) Ix W) (a₁ q) W)
    (hdone : ∀ (D : Nat) (W : World), w.heap.size ≤ D → I Y W → W.heap[D]? = some (.deferred (some [])) → Q .normal { a with defers := { target := .collected D, args := #[] } :: a.defers } W)
    (hstop : ∀ (D : Nat) (c : Code) (W : World), w.heap.size ≤ D → Ix c W → W.heap[D]? = some (.deferred (some [])) → c.wpIn Fence.wide n P Q { a with defers := { target := .collected D, args := #[] } :: a.defers } W) :
    (Code.rangeFunc g #[p] assign body).wpIn Fence.wide n P Q a w := by
  refine wpIn_rangeFunc ?_
  intro fn hfn
  obtain ⟨rec, hrec⟩ : ∃ rec : LoopState → Option Code → Loop, rec = fun st pe => { state := st, pending := pe, fn, tmps := a.tmps, params := #[p], assign, body, defers := w.heap.size } := ⟨_, rfl⟩
  obtain ⟨W1, hW1⟩ : ∃ W1, (w.alloc (.deferred (some []))).alloc (.loop (rec .ready none)) = W1 := ⟨_, rfl⟩
  obtain ⟨l, hl⟩ : ∃ l, l = w.heap.size + 1 := ⟨_, rfl⟩
  have hL1 : W1.heap[l]? = some (.loop (rec .ready none)) := by
    rw [← hW1, hl]
    have := World.alloc_heap_new (w.alloc (.deferred (some []))) (.loop (rec .ready none))
    rwa [World.size_alloc] at this
  have hK1 : W1.heap[w.heap.size]? = some (.deferred (some [])) := by
    rw [← hW1]; exact (Below.heap_alloc _ _ _ (by simp)).trans (World.alloc_heap_new w _)
  have hI1 : I 0 W1 := by rw [← hW1]; exact (hI 0).lay _ ((hI 0).lay _ h0)
  have henter := run_enterLoop_outer (P := P) (w := w) fn a.tmps #[p] assign body
  refine ⟨l, [{ target := .collected w.heap.size, args := #[] }], W1, { target := .fn (.func gf) #[], args := first ++ #[.func (.yield l) #[] #[]] }, W1, gf, first ++ #[.func (.yield l) #[] #[]], W1, ?_, ?_, ?_, ?_, ?_, ?_⟩
  · rw [← hW1, hrec, hl]; exact henter
  · simp only [resolve, hg]
    simp [go_sem]
  · intro f' _; trivial
  · simp [invoke, go_sem, eg]
  · intro h; cases h
  · refine (hit l (fun q W => I q W ∧ W.heap[l]? = some (.loop (rec .ready none)) ∧ W.heap[w.heap.size]? = some (.deferred (some [])))
      (fun W => ∃ c, Ix c W ∧ W.heap[l]? = some (.loop (rec .done (some c))) ∧ W.heap[w.heap.size]? = some (.deferred (some [])))
      W1 ⟨hI1, hL1, hK1⟩ (fun q W h => hRG q W h.1) ?_).mono ?_
    · rintro q W hq ⟨hi, hlW, hkW⟩
      have hlt : l < W.heap.size := (Array.getElem?_eq_some_iff.1 hlW).1
      have hy := run_yield (P := P) (args := #[Rv q]) hlW (by rw [hrec]; rfl)
      rw [hrec] at hy
      have hz : ((#[p] : Array Tmp).zip #[Rv q]).foldl (fun (t : Array Value) (x : Tmp × Value) => t.setIfInBounds x.1 x.2) a.tmps = a.tmps.setIfInBounds p (Rv q) := by simp
      refine ⟨fn, _, assign, body, hy, ?_⟩
      have hz2 : ((#[p] : Array Tmp).zip #[Rv q]).foldl (fun (tmps : Array Value) (t, a) => tmps.setIfInBounds t a) a.tmps = a.tmps.setIfInBounds p (Rv q) := hz
      simp only [hz2]
      refine roundIn_of_wpIn hfn (hassign l q W _ ⟨_, run_beginRound hlW (by rw [hrec]), ?_⟩)
      have hl2 : (W.putObj l (.loop { rec .ready none with state := .busy })).heap[l]? = some (.loop { rec .ready none with state := .busy }) := World.putObj_heap_same hlt
      have hk2 : (W.putObj l (.loop { rec .ready none with state := .busy })).heap[w.heap.size]? = some (.deferred (some [])) := (World.putObj_heap_other (by omega)).trans hkW
      refine wpIn_mono (hbody l q _ hq ((hI q).put _ hi (by omega) hlW rfl)) ?_
      have fin : ∀ (jump : Option Code) (W3 : World), KeepsOthers (W.putObj l (.loop { rec .ready none with state := .busy })) W3 →
          (Instr.endRound l jump).run P W3 = .ok (.bool jump.isNone) (W3.putObj l (.loop (rec (if jump.isNone then .ready else .done) jump))) ∧
          W3.heap[l]? = some (.loop { rec .ready none with state := .busy }) ∧
          (W3.putObj l (.loop (rec (if jump.isNone then .ready else .done) jump))).heap[l]? = some (.loop (rec (if jump.isNone then .ready else .done) jump)) ∧
          (W3.putObj l (.loop (rec (if jump.isNone then .ready else .done) jump))).heap[w.heap.size]? = some (.deferred (some [])) := by
        intro jump W3 hk3
        have hl3 := hk3.same _ _ hl2 rfl
        have he := run_endRound (P := P) jump hl3
        refine ⟨?_, hl3, World.putObj_heap_same (Array.getElem?_eq_some_iff.1 hl3).1, (World.putObj_heap_other (by omega)).trans (hk3.same _ _ hk2 rfl)⟩
        rw [hrec] at he ⊢
        exact he
      rintro e a3 W3 hp
      cases e with
      | normal =>
        obtain ⟨hk3, hi3⟩ := hp
        obtain ⟨hr, hl3, hl4, hk4⟩ := fin none W3 hk3
        exact ⟨_, _, hr, .inl ⟨rfl, (hI (q + 1)).put _ hi3 (by omega) hl3 rfl, hl4, hk4⟩⟩
      | ret =>
        obtain ⟨hk3, hi3⟩ := hp
        obtain ⟨hr, hl3, hl4, hk4⟩ := fin (some .ret) W3 hk3
        exact ⟨_, _, hr, .inr ⟨rfl, .ret, (hIx _).put _ hi3 (by omega) hl3 rfl, hl4, hk4⟩⟩
      | exit id =>
        obtain ⟨hk3, hi3⟩ := hp
        obtain ⟨hr, hl3, hl4, hk4⟩ := fin (some (.exit id)) W3 hk3
        exact ⟨_, _, hr, .inr ⟨rfl, .exit id, (hIx _).put _ hi3 (by omega) hl3 rfl, hl4, hk4⟩⟩
      | goto t =>
        obtain ⟨hk3, hi3⟩ := hp
        obtain ⟨hr, hl3, hl4, hk4⟩ := fin (some (.goto t)) W3 hk3
        exact ⟨_, _, hr, .inr ⟨rfl, .goto t, (hIx _).put _ hi3 (by omega) hl3 rfl, hl4, hk4⟩⟩
      | panic ch => exact hp.elim
      | outgrown => exact hp.elim
    · rintro e W2 ⟨⟨v, rfl⟩, (⟨hi, hlW, hkW⟩ | ⟨c, hi, hlW, hkW⟩)⟩
      · refine ⟨none, _, by have := run_endLoop (P := P) hlW (by rw [hrec]; simp); rw [hrec] at this; exact this, ?_⟩
        exact hdone _ _ (Nat.le_refl _) ((hI Y).put _ hi (by omega) hlW rfl) ((World.putObj_heap_other (by omega)).trans hkW)
      · refine ⟨some c, _, by have := run_endLoop (P := P) hlW (by rw [hrec]; simp); rw [hrec] at this; exact this, ?_⟩
        exact hstop _ c _ (Nat.le_refl _) ((hIx c).put _ hi (by omega) hlW rfl) ((World.putObj_heap_other (by omega)).trans hkW)
end Go.Proofs.Ytklpdkojffaiiaa
