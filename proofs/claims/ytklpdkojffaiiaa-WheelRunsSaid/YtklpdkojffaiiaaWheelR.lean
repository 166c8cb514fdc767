/- The wheel and the document's wheel side by side. -/
import Derived.Test.YtklpdkojffaiiaaRtick9
import Derived.Test.YtklpdkojffaiiaaWheelK
import Derived.Test.YtklpdkojffaiiaaDue
namespace Go.Proofs.Ytklpdkojffaiiaa
open Go.RowKit Go.Shelf
set_option maxRecDepth 100000

namespace Wh
theorem WheelAt.moreX {w w' : World} {base p r0 r1 r2 : Nat} {X Y : Nat → Prop} {M : Wl} (h : WheelAt w base X p r0 r1 r2 M) (ho : Only X w w') (hy : ∀ b, Y b → w.heap.size ≤ b ∧ b < w'.heap.size) : WheelAt w' base (fun b => X b ∨ Y b) p r0 r1 r2 M := by
  have h' := h.keepsX ho
  obtain ⟨V, hV⟩ := h.ex
  obtain ⟨V', hV'⟩ := h'.ex
  have l1 : p < w.heap.size := by obtain ⟨c, hb, _⟩ := h.bp; exact hb.lt
  have l2 : r0 < w.heap.size := by obtain ⟨c, hb, _⟩ := h.b0; exact hb.lt
  have l3 : r1 < w.heap.size := by obtain ⟨c, hb, _⟩ := h.b1; exact hb.lt
  have l4 : r2 < w.heap.size := by obtain ⟨c, hb, _⟩ := h.b2; exact hb.lt
  have no : ∀ {b}, b < w.heap.size → Y b → False := fun hb hY => by have := (hy _ hY).1; omega
  have hVV : ∀ q, q < 449 → V' q = V q := fun q hq => by
    have h1 := (hV'.at_ q hq).1
    have h2 := (hV.at_ q hq).1
    have hx : ¬ X (loc p r0 r1 r2 q).block := by
      rcases loc_block (p := p) (r0 := r0) (r1 := r1) (r2 := r2) q with e | e | e | e <;> rw [e]
      · exact h.px.1
      · exact h.px.2.1
      · exact h.px.2.2.1
      · exact h.px.2.2.2
    rw [World.cell?_of_block (ho.block _ (World.block_lt_of_cell? w _ h2) hx), h2] at h1
    exact (Option.some.inj h1).symm
  exact { h' with px := ⟨fun e => e.elim h.px.1 (no l1), fun e => e.elim h.px.2.1 (no l2), fun e => e.elim h.px.2.2.1 (no l3), fun e => e.elim h.px.2.2.2 (no l4)⟩, xlt := fun b e => e.elim (h'.xlt b) (fun e => (hy b e).2), ex := ⟨V', hV'.at_, hV'.two, fun q hq b e hx => hx.elim (hV'.out q hq b e) (no ((hV.at_ q hq).2.lt b (by rw [← hVV q hq]; exact e)).2)⟩ }
end Wh
section
variable {w w' : World} {base p now : Nat} {X : Nat → Prop} {A : List Wh.Tm} {turn : Int}
theorem WheelI.moreX {Y : Nat → Prop} (h : WheelI w base X p A now turn) (ho : Only X w w') (hy : ∀ b, Y b → w.heap.size ≤ b ∧ b < w'.heap.size) : WheelI w' base (fun b => X b ∨ Y b) p A now turn := by
  obtain ⟨r0, r1, r2, M, h1, h2⟩ := h
  exact ⟨r0, r1, r2, M, h1.moreX ho hy, h2⟩
theorem WheelI.wf (h : WheelI w base X p A now turn) {t : Wh.Tm} (ht : t ∈ A) : t.due < 18446744073709551616 := by
  obtain ⟨r0, r1, r2, M, h1, h2, _⟩ := h
  obtain ⟨V, hV⟩ := h1.ex
  obtain ⟨q, hq, hm⟩ := Wh.mem_all.1 (h2.perm.mem_iff.2 ht)
  exact ((hV.at_ q hq).2.2.1 t hm).due
theorem WheelI.wfid (h : WheelI w base X p A now turn) {t : Wh.Tm} (ht : t ∈ A) : (Lit.int .i64 t.id).wf = true := by
  obtain ⟨r0, r1, r2, M, h1, h2, _⟩ := h
  obtain ⟨V, hV⟩ := h1.ex
  obtain ⟨q, hq, hm⟩ := Wh.mem_all.1 (h2.perm.mem_iff.2 ht)
  exact ((hV.at_ q hq).2.2.1 t hm).id
theorem WheelI.xlt (h : WheelI w base X p A now turn) {b : Nat} (hb : X b) : b < w.heap.size := by
  obtain ⟨r0, r1, r2, M, h1, _⟩ := h
  exact h1.xlt b hb
end
/-- both wheels hold A; X: the document's blocks -/
def Both9 (w : World) (B : Nat) (X : Nat → Prop) (p r now : Nat) (A : List Wh.Tm) (turn : Int) : Prop := WheelI w B X p A now turn ∧ Rw.RefW w X r now A ∧ ∀ b, X b → B ≤ b
section
variable {w w' : World} {B p r now now' : Nat} {X : Nat → Prop} {A A' : List Wh.Tm} {turn turn' : Int}
theorem Both9.keeps (h : Both9 w B X p r now A turn) (ho : Only NoBlock w w') : Both9 w' B X p r now A turn := ⟨h.1.keeps ho, h.2.1.keeps ho (fun _ _ h => h), h.2.2⟩
/-- the wheel first, then the document's -/
theorem Both9.wr {w1 : World} {R : Nat → Prop} (h : Both9 w B X p r now A turn) (h1 : WheelI w1 B R p A' now' turn') (hR : ∀ b, X b → R b) (_o1 : Only (fun k => B ≤ k ∧ ¬ X k) w w1) (h2 : Rw.RefW w' (Rw.plus X w1 w') r now' A') (o2 : Only X w1 w') :
    Both9 w' B (Rw.plus X w1 w') p r now' A' turn' := by
  have hlow := h1.low
  exact ⟨(h1.less hR).moreX o2 (fun b e => e), h2, fun b e => e.elim (h.2.2 b) (fun e => by omega)⟩
/-- the document's first, then the wheel -/
theorem Both9.rw {w1 w0 : World} {Z : Nat → Prop} (h : Both9 w0 B X p r now A turn) (h6 : WheelI w' B (fun b => (X b ∨ Z b) ∨ (w0.heap.size ≤ b ∧ b < w1.heap.size)) p A' now' turn') (o6 : Only (fun k => B ≤ k ∧ ¬ ((X k ∨ Z k) ∨ (w0.heap.size ≤ k ∧ k < w1.heap.size))) w1 w') (h5 : Rw.RefW w1 (Rw.plus X w0 w1) r now' A') :
    Both9 w' B (Rw.plus X w0 w1) p r now' A' turn' := by
  have hlow := h.1.low
  exact ⟨h6.less (fun b e => e.elim (fun e => .inl (.inl e)) (fun e => .inr e)), h5.keeps o6 (fun b e k => k.2 (e.elim (fun e => .inl (.inl e)) (fun e => .inr e))), fun b e => e.elim (h.2.2 b) (fun e => by omega)⟩
theorem Both9.only {w1 : World} (h : Both9 w B X p r now A turn) (o1 : Only (fun k => B ≤ k ∧ ¬ X k) w w1) (o2 : Only X w1 w') : Only (fun k => B ≤ k) w w' :=
  (o1.mono (fun _ e => e.1)).trans (o2.mono (fun k e => h.2.2 k e))
theorem Both9.first {w1 : World} (h : Both9 w B X p r now A turn) (o1 : Only (fun k => B ≤ k ∧ ¬ X k) w w1) : Rw.RefW w1 X r now A :=
  h.2.1.keeps o1 (fun _ e h => h.2 e)
end
theorem Only.freshB {a b c : World} {B : Nat} (h : Only NoBlock a b) (k : Only (fun k => B ≤ k) b c) (hB : a.heap.size ≤ B) : Only NoBlock a c :=
  h.andThen k (fun i hi e => by have e : B ≤ i := e; omega)
theorem Wh.setA_turn (A : List Wh.Tm) (now : Nat) (turn id d : Int) : (Wh.setA A now turn id d).2.2 ≤ turn + 1 := by
  unfold Wh.setA
  split
  · split <;> simp <;> omega
  · simp; omega
theorem Ints.lt9 {w : World} {base : Nat} {v : Value} {l : List Int} (h : Ints w base v l) : ∀ b, v.ownBlock = some b → base ≤ b ∧ b < w.heap.size := World.ownsRow.lt h
-- what is read of both at a call end
section
variable {w w0 : World} {B p r now : Nat} {X : Nat → Prop} {A : List Wh.Tm} {turn : Int} {ao : Option Addr} {cap : Nat}
theorem now_held (h : w.cell? ⟨r, 0, none⟩ = some (.int .u64 now) ∧ w.cell? ⟨r, 1, none⟩ = some (.slice ao A.length cap) ∧ Both9 w B X p r now A turn ∧ Only NoBlock w0 w) :
    Calls Try.prog 20 #[.pointer (some ⟨p, 0, none⟩)] w fun e w' => e = .returned (.int .u64 now) ∧ w'.cell? ⟨r, 0, none⟩ = some (.int .u64 now) ∧ w'.cell? ⟨r, 1, none⟩ = some (.slice ao A.length cap) ∧ Both9 w' B X p r now A turn ∧ Only NoBlock w0 w' :=
  (now_i w B p now X A turn h.2.2.1.1).mono fun e w' ⟨he, hw⟩ => by subst hw; exact ⟨he, h⟩
theorem len_held (h : w.cell? ⟨r, 0, none⟩ = some (.int .u64 now) ∧ w.cell? ⟨r, 1, none⟩ = some (.slice ao A.length cap) ∧ Both9 w B X p r now A turn ∧ Only NoBlock w0 w) :
    Calls Try.prog 14 #[.pointer (some ⟨p, 0, none⟩)] w fun e w' => e = .returned (.int .i64 A.length) ∧ w'.cell? ⟨r, 0, none⟩ = some (.int .u64 now) ∧ w'.cell? ⟨r, 1, none⟩ = some (.slice ao A.length cap) ∧ Both9 w' B X p r now A turn ∧ Only NoBlock w0 w' :=
  (len_i w B p now X A turn h.2.2.1.1).mono fun e w' ⟨he, hw⟩ => by subst hw; exact ⟨he, h⟩
theorem due_held (h : w.cell? ⟨r, 0, none⟩ = some (.int .u64 now) ∧ w.cell? ⟨r, 1, none⟩ = some (.slice ao A.length cap) ∧ Both9 w B X p r now A turn ∧ Only NoBlock w0 w) :
    Calls Try.prog 15 #[.pointer (some ⟨p, 0, none⟩)] w fun e w' => e = .returned (.int .u64 (Wh.nextA A now)) ∧ w'.cell? ⟨r, 0, none⟩ = some (.int .u64 now) ∧ w'.cell? ⟨r, 1, none⟩ = some (.slice ao A.length cap) ∧ Both9 w' B X p r now A turn ∧ Only NoBlock w0 w' :=
  (due_i w B p now X A turn h.2.2.1.1).mono fun _ _ ⟨he, ho⟩ => ⟨he, Wh.cell_same ho h.1, Wh.cell_same ho h.2.1, h.2.2.1.keeps ho, h.2.2.2.trans ho⟩
theorem next_held (h : w.cell? ⟨r, 0, none⟩ = some (.int .u64 now) ∧ w.cell? ⟨r, 1, none⟩ = some (.slice ao A.length cap) ∧ Both9 w B X p r now A turn ∧ Only NoBlock w0 w) :
    Calls Try.prog 21 #[.pointer (some ⟨r, 0, none⟩)] w fun e w' => e = .returned (.int .u64 (Wh.nextA A now)) ∧ w'.cell? ⟨r, 0, none⟩ = some (.int .u64 now) ∧ w'.cell? ⟨r, 1, none⟩ = some (.slice ao A.length cap) ∧ Both9 w' B X p r now A turn ∧ Only NoBlock w0 w' :=
  (rnext_at w X r now A h.2.2.1.2.1 (fun t ht => ⟨h.2.2.1.1.later ht, h.2.2.1.1.wf ht⟩) (by have := h.2.2.1.1.size; omega)).mono fun e w' ⟨he, ho⟩ => ⟨he, Wh.cell_same ho h.1, Wh.cell_same ho h.2.1, h.2.2.1.keeps ho, h.2.2.2.trans ho⟩
end
end Go.Proofs.Ytklpdkojffaiiaa
