/- A timer is set. -/
import Derived.Test.YtklpdkojffaiiaaStop
import Derived.Test.YtklpdkojffaiiaaPut
import Derived.Test.YtklpdkojffaiiaaHas
import Derived.BigRegion
namespace Go.Proofs.Ytklpdkojffaiiaa
open Go.RowKit Go.Shelf
set_option maxRecDepth 100000

namespace Wh
def Wl.puts (M : Wl) (id : Int) (d : Nat) : Wl := Wl.upd { M with turn := M.turn + 1, n := M.n + 1 } (place M.now (M.now + d)) (M.L (place M.now (M.now + d)) ++ [⟨id, M.now + d, M.turn + 1⟩])
/-- what a set makes of a wheel -/
def Sets (M : Wl) (id d : Int) (M' : Wl) (e : Int) : Prop :=
  (¬ (1 ≤ d ∧ d ≤ 1048576) ∧ e = 1 ∧ M' = M) ∨ ((1 ≤ d ∧ d ≤ 1048576) ∧ ((M.has id = false ∧ M.n = 64 ∧ e = 11 ∧ M' = M) ∨ ∃ M1, ((M.has id = true ∧ Stopped M id M1 true) ∨ (M.has id = false ∧ M.n ≠ 64 ∧ M1 = M)) ∧ e = 0 ∧ M' = M1.puts id d.toNat))
theorem Stopped.now {M M' : Wl} {id : Int} {b : Bool} (h : Stopped M id M' b) : M'.now = M.now ∧ M'.turn = M.turn ∧ (M'.n = M.n ∨ M'.n = M.n - 1) ∧ ∀ q, (M'.L q).length ≤ (M.L q).length := by
  rcases h with ⟨_, _, rfl⟩ | ⟨_, q, i, _, hi, _, rfl⟩
  · exact ⟨rfl, rfl, .inl rfl, fun _ => Nat.le_refl _⟩
  · refine ⟨rfl, rfl, .inr rfl, fun q' => ?_⟩
    simp only [Wl.upd]
    split
    · rename_i e; rw [e, List.length_eraseIdx]; split <;> omega
    · exact Nat.le_refl _
theorem wf_i64 {x : Int} (h0 : -1000000000000000000 ≤ x) (h1 : x ≤ 1000000000000000000) : (Lit.int .i64 x).wf = true := by
  unfold Lit.wf
  simp only [Bool.and_eq_true, decide_eq_true_eq]
  exact ⟨by show (-9223372036854775808 : Int) ≤ x; omega, by show x ≤ (9223372036854775807 : Int); omega⟩
end Wh
set_option maxHeartbeats 4000000 in
/-- the second half: the timer is put -/
theorem set_at (w : World) (base p r0 r1 r2 : Nat) (X : Nat → Prop) (M : Wh.Wl) (h : Wh.WheelAt w base X p r0 r1 r2 M) (id d : Int) (hid : (Lit.int .i64 id).wf = true) (hnow : M.now < 4611686018427387904) (hn0 : 0 ≤ M.n) (hn1 : M.n ≤ 1000000) (ht0 : 0 ≤ M.turn) (ht1 : M.turn ≤ 1000000) (hlen : ∀ q, q < 449 → (M.L q).length < 1000000) :
    Calls Try.prog 11 #[.pointer (some ⟨p, 0, none⟩), .int .i64 id, .int .i64 d] w fun e w' => ∃ c M', e = .returned (.int .i64 c) ∧ Wh.Sets M id d M' c ∧ Wh.WheelAt w' base X p r0 r1 r2 M' ∧ Only (fun k => base ≤ k ∧ ¬ X k) w w' := by
  go_enter Try.func11, Try.ntmps11
  by_cases hd0 : d < 1
  · have HD := Lib.hid hd0
    have hdd : decide (d < 1) = true := by simpa using hd0
    clear hd0
    go_wp2_with fail
    go_ret
    exact ⟨1, M, rfl, .inl ⟨by have := HD.out; omega, rfl, rfl⟩, h, Only.refl _ _⟩
  by_cases hd1 : 1048576 < d
  · have HD := Lib.hid hd1
    have hdd : decide (d < 1) = false := by simpa using hd0
    have hde : decide (1048576 < d) = true := by simpa using hd1
    clear hd0 hd1
    go_wp2_with fail
    go_ret
    exact ⟨1, M, rfl, .inl ⟨by have := HD.out; omega, rfl, rfl⟩, h, Only.refl _ _⟩
  have HD : RowKit.Hid (1 ≤ d ∧ d ≤ 1048576) := Lib.hid (by omega)
  have hdd : decide (d < 1) = false := by simpa using hd0
  have hde : decide (1048576 < d) = false := by simpa using hd1
  obtain ⟨D, hD⟩ : ∃ D : Nat, d = (D : Int) := ⟨d.toNat, by omega⟩
  have HDD := Lib.hid hD
  clear hd0 hd1 hD
  obtain ⟨bH, hbH⟩ : ∃ b, M.has id = b := ⟨_, rfl⟩
  have HB := Lib.hid hbH
  have hhas := has_at w base p r0 r1 r2 X M h id
  rw [hbH] at hhas
  clear hbH
  go_upto_region 3 with fail
  cases bH with
  | true =>
    go_wp2_with fail
    refine hhas.mono ?_
    rintro e w1 ⟨rfl, ho1⟩
    go_upto_region 4 with fail
    go_wp2_with fail
    refine (stop_at w1 base p r0 r1 r2 X M (h.keeps ho1) id hn0 hn1).mono ?_
    rintro e w2 ⟨b, M1, rfl, hst, hw2, ho2⟩
    obtain rfl : b = true := by
      rcases hst with ⟨_, h2, _⟩ | ⟨h2, _⟩
      · rw [HB.out] at h2; cases h2
      · exact h2
    obtain ⟨e1, e2, e3, e4⟩ := hst.now
    have HST := Lib.hid hst
    clear hst
    have hnow1 : M1.now < 4611686018427387904 := by omega
    have ht01 : 0 ≤ M1.turn := by omega
    have ht11 : M1.turn ≤ 1000000 := by omega
    have hn01 : -1 ≤ M1.n := by omega
    have hn11 : M1.n ≤ 1000000 := by omega
    have hlen1 : ∀ q, q < 449 → (M1.L q).length < 1000000 := fun q hq => by have := e4 q; have := hlen q hq; omega
    clear e1 e2 e3 e4
    have cT := hw2.turn
    have fT := Wh.p_free hw2 1
    have hwr1 : IntKind.i64.wrap (M1.turn + 1) = M1.turn + 1 := IntWalk.i64_in _ (by omega)
    go_upto_region 8 with fail
    have hs1 := hw2.setTurn (M1.turn + 1)
    generalize World.setCell _ ⟨p, 1, none⟩ (.int .i64 (M1.turn + 1)) = w3 at hs1 ⊢
    clear cT fT hwr1
    have cN := hs1.1.cnt
    simp only at cN
    have fN := Wh.p_free hs1.1 6
    have hwr1 : IntKind.i64.wrap (M1.n + 1) = M1.n + 1 := IntWalk.i64_in _ (by omega)
    go_upto_region 9 with fail
    have hs2 := hs1.1.setN (M1.n + 1)
    generalize World.setCell _ ⟨p, 6, none⟩ (.int .i64 (M1.n + 1)) = w4 at hs2 ⊢
    clear cN fN hwr1
    have hs3 := hs2.1.keeps (Only.refl NoBlock w4).drew
    have c0 := hs3.now
    have c1 := hs3.turn
    simp only at c0 c1
    have hcv : IntKind.u64.wrap d = d := by rw [IntKind.wrap_u64]; have := HD.out; omega
    have hsum : IntKind.u64.wrap ((M1.now : Int) + d) = ((M1.now + d.toNat : Nat) : Int) := by rw [IntKind.wrap_u64]; have := HD.out; omega
    have hput := put_at w4.drew base X p r0 r1 r2 _ hs3 ⟨id, M1.now + d.toNat, M1.turn + 1⟩ ⟨hid, by have := HD.out; show M1.now + d.toNat < _; omega, by show (Lit.int .i64 (M1.turn + 1)).wf = true; exact Wh.wf_i64 (by omega) (by omega)⟩ (by show M1.now < _; omega) (hlen1 _ (Wh.place_lt _ _))
    obtain ⟨E, hE⟩ : ∃ E, M1.now + d.toNat = E := ⟨_, rfl⟩
    simp only [hE] at hput hsum
    have HE := Lib.hid hE
    clear hE
    go_region_held3 (fun w' => w'.cell? ⟨p, 0, none⟩ = some (.int .u64 M1.now) ∧ w'.cell? ⟨p, 1, none⟩ = some (.int .i64 (M1.turn + 1)))
      (first | exact ⟨c0, c1⟩ | exact ⟨by assumption, by assumption⟩ | exact ⟨hput5.now, hput5.turn⟩ | go_keep)
      (first | (go_at_call 23; refine hput.mono ?_; rintro e w5 ⟨⟨v, rfl⟩, hput5, hput6⟩))
    go_wp2
    go_ret
    refine ⟨0, _, rfl, .inr ⟨HD.out, .inr ⟨_, .inl ⟨HB.out, HST.out⟩, rfl, rfl⟩⟩, ?_, (((ho1.of_no.trans ho2).trans hs1.2).trans hs2.2).drew.trans hput6⟩
    unfold Wh.Wl.puts
    simp only [HE.out]
    exact hput5
  | false =>
    go_wp2_with fail
    refine hhas.mono ?_
    rintro e w1 ⟨rfl, ho1⟩
    have hw1 := h.keeps ho1
    have cN := hw1.cnt
    by_cases h64 : M.n = 64
    · have H64 := Lib.hid h64
      rw [h64] at cN
      clear h64
      go_wp2_with fail
      go_ret
      exact ⟨11, M, rfl, .inr ⟨HD.out, .inl ⟨HB.out, H64.out, rfl, rfl⟩⟩, hw1, ho1.of_no⟩
    · have h64b : (M.n == 64) = false := by simpa using h64
      have H64 := Lib.hid h64
      have hlen1 := hlen
      clear h64
      go_upto_region 7 with fail
      clear cN h64b
      have cT := hw1.turn
      have fT := Wh.p_free hw1 1
      have hwr1 : IntKind.i64.wrap (M.turn + 1) = M.turn + 1 := IntWalk.i64_in _ (by omega)
      go_upto_region 8 with fail
      have hs1 := hw1.setTurn (M.turn + 1)
      generalize World.setCell _ ⟨p, 1, none⟩ (.int .i64 (M.turn + 1)) = w3 at hs1 ⊢
      clear cT fT hwr1
      have cN := hs1.1.cnt
      simp only at cN
      have fN := Wh.p_free hs1.1 6
      have hwr1 : IntKind.i64.wrap (M.n + 1) = M.n + 1 := IntWalk.i64_in _ (by omega)
      go_upto_region 9 with fail
      have hs2 := hs1.1.setN (M.n + 1)
      generalize World.setCell _ ⟨p, 6, none⟩ (.int .i64 (M.n + 1)) = w4 at hs2 ⊢
      clear cN fN hwr1
      have hs3 := hs2.1.keeps (Only.refl NoBlock w4).drew
      have c0 := hs3.now
      have c1 := hs3.turn
      simp only at c0 c1
      have hcv : IntKind.u64.wrap d = d := by rw [IntKind.wrap_u64]; have := HD.out; omega
      have hsum : IntKind.u64.wrap ((M.now : Int) + d) = ((M.now + d.toNat : Nat) : Int) := by rw [IntKind.wrap_u64]; have := HD.out; omega
      have hput := put_at w4.drew base X p r0 r1 r2 _ hs3 ⟨id, M.now + d.toNat, M.turn + 1⟩ ⟨hid, by have := HD.out; show M.now + d.toNat < _; omega, by show (Lit.int .i64 (M.turn + 1)).wf = true; exact Wh.wf_i64 (by omega) (by omega)⟩ (by show M.now < _; omega) (hlen1 _ (Wh.place_lt _ _))
      obtain ⟨E, hE⟩ : ∃ E, M.now + d.toNat = E := ⟨_, rfl⟩
      simp only [hE] at hput hsum
      have HE := Lib.hid hE
      clear hE
      go_region_held3 (fun w' => w'.cell? ⟨p, 0, none⟩ = some (.int .u64 M.now) ∧ w'.cell? ⟨p, 1, none⟩ = some (.int .i64 (M.turn + 1)))
        (first | exact ⟨c0, c1⟩ | exact ⟨by assumption, by assumption⟩ | exact ⟨hput5.now, hput5.turn⟩ | go_keep)
        (first | (go_at_call 23; refine hput.mono ?_; rintro e w5 ⟨⟨v, rfl⟩, hput5, hput6⟩))
      go_wp2
      go_ret
      refine ⟨0, _, rfl, .inr ⟨HD.out, .inr ⟨_, .inr ⟨HB.out, H64.out, rfl⟩, rfl, rfl⟩⟩, ?_, (((ho1.of_no).trans hs1.2).trans hs2.2).drew.trans hput6⟩
      unfold Wh.Wl.puts
      simp only [HE.out]
      exact hput5
end Go.Proofs.Ytklpdkojffaiiaa
