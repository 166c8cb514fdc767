/- The store's state: may it be one, its last index and term, a copy. -/
import Derived.Test.YtekmjhenhgmpgaaRlogP
namespace Go.Proofs.Ytekmjhenhgmpgaa
open Go.RowKit
set_option maxRecDepth 100000

/-- the seven cells of a state -/
def stCells (h : Hrd) (s : Snp) (v : Value) : Array Value := #[.int .u64 h.term, .int .i64 h.vote, .int .u64 s.index, .int .u64 s.term, .int .u64 s.config, .string s.data, v]
def rightB (h : Hrd) (s : Snp) (l : List Ent) : Bool := Rl.newOk s l && (decide (-1 ≤ h.vote) && decide (h.vote < 7))

set_option maxHeartbeats 1600000 in
theorem right_at (w : World) (h : Hrd) (hh : h.Wf) (s : Snp) (hs : s.Wf) (ao : Option Addr) (cap : Nat) (l : List Ent) (hl : EntsIn w ao l) (hll : l.length ≤ 1000000000000) :
    Calls Try.prog 39 #[.agg #[.int .u64 h.term, .int .i64 h.vote, .int .u64 s.index, .int .u64 s.term, .int .u64 s.config, .string s.data, .slice ao l.length cap]] w fun e w' => e = .returned (.bool (rightB h s l)) ∧ Only NoBlock w w' := by
  obtain ⟨ht, hv⟩ := h
  obtain ⟨hh1, hh2⟩ := hh
  simp only at hh1 hh2 ⊢
  have hbx := Blk.made w #[.int .u64 ht, .int .i64 hv, .int .u64 s.index, .int .u64 s.term, .int .u64 s.config, .string s.data, .slice ao l.length cap] 42
  have hn := (Only.refl NoBlock w).alloc (Obj.cells #[.int .u64 ht, .int .i64 hv, .int .u64 s.index, .int .u64 s.term, .int .u64 s.config, .string s.data, .slice ao l.length cap] 42)
  go_enter Try.func39, Try.ntmps39
  go_upto_region 1 with fail
  generalize w.alloc (Obj.cells #[.int .u64 ht, .int .i64 hv, .int .u64 s.index, .int .u64 s.term, .int .u64 s.config, .string s.data, .slice ao l.length cap] 42) = w1 at hbx hn ⊢
  have b2 : w1.cell? ⟨w.heap.size, 2, none⟩ = some (.int .u64 s.index) := by rw [hbx.cell]; rfl
  have b3 : w1.cell? ⟨w.heap.size, 3, none⟩ = some (.int .u64 s.term) := by rw [hbx.cell]; rfl
  have b4 : w1.cell? ⟨w.heap.size, 4, none⟩ = some (.int .u64 s.config) := by rw [hbx.cell]; rfl
  have b5 : w1.cell? ⟨w.heap.size, 5, none⟩ = some (.string s.data) := by rw [hbx.cell]; rfl
  have b6 : w1.cell? ⟨w.heap.size, 6, none⟩ = some (.slice ao l.length cap) := by rw [hbx.cell]; rfl
  go_wp2_with fail
  refine (rlognew_at w1 s hs ao cap l (hl.keeps hn (fun _ _ h => h)) hll).mono ?_
  rintro e w2 ⟨hO2, hE⟩
  have hO := hn.trans hO2
  have hb := hbx.keeps hO2 (fun h => h)
  clear b2 b3 b4 b5 b6 hbx hn hO2
  have b1 : w2.cell? ⟨w.heap.size, 1, none⟩ = some (.int .i64 hv) := by rw [hb.cell]; rfl
  have HR : RowKit.Hid (rightB ⟨ht, hv⟩ s l = (Rl.newOk s l && (decide (-1 ≤ hv) && decide (hv < 7)))) := Lib.hid rfl
  rcases hE with ⟨hk, g, rfl, -, -⟩ | ⟨hk, rfl⟩
  · rw [hk, Bool.true_and] at HR
    clear hk
    by_cases h1 : -1 ≤ hv
    · have d1 : decide (-1 ≤ hv) = true := by simpa using h1
      rw [d1, Bool.true_and] at HR
      go_wp2_with fail
      go_ret
      exact ⟨by rw [HR.out]; rfl, hO⟩
    · have d1 : decide (-1 ≤ hv) = false := by simpa using h1
      rw [d1, Bool.false_and] at HR
      go_wp2_with fail
      go_ret
      exact ⟨by rw [HR.out]; rfl, hO⟩
  · rw [hk, Bool.false_and] at HR
    clear hk
    go_wp2_with fail
    go_ret
    exact ⟨by rw [HR.out]; rfl, hO⟩

set_option maxHeartbeats 1600000 in
theorem last_at (w : World) (h : Hrd) (s : Snp) (ao : Option Addr) (cap : Nat) (l : List Ent) (hl : EntsIn w ao l) (hll : l.length ≤ 1000000000000) :
    Calls Try.prog 46 #[.agg #[.int .u64 h.term, .int .i64 h.vote, .int .u64 s.index, .int .u64 s.term, .int .u64 s.config, .string s.data, .slice ao l.length cap]] w fun e w' => e = .returned (.tuple #[.int .u64 (Rl.lastI s l : Nat), .int .u64 (Rl.lastT s l : Nat)]) ∧ Only NoBlock w w' := by
  obtain ⟨ht, hv⟩ := h
  obtain ⟨si, st, sc, sd⟩ := s
  simp only
  have hbx := Blk.made w #[.int .u64 ht, .int .i64 hv, .int .u64 si, .int .u64 st, .int .u64 sc, .string sd, .slice ao l.length cap] 42
  have hn := (Only.refl NoBlock w).alloc (Obj.cells #[.int .u64 ht, .int .i64 hv, .int .u64 si, .int .u64 st, .int .u64 sc, .string sd, .slice ao l.length cap] 42)
  go_enter Try.func46, Try.ntmps46
  go_upto_region 1 with fail
  generalize w.alloc (Obj.cells #[.int .u64 ht, .int .i64 hv, .int .u64 si, .int .u64 st, .int .u64 sc, .string sd, .slice ao l.length cap] 42) = w1 at hbx hn ⊢
  have b2 : w1.cell? ⟨w.heap.size, 2, none⟩ = some (.int .u64 si) := by rw [hbx.cell]; rfl
  have b3 : w1.cell? ⟨w.heap.size, 3, none⟩ = some (.int .u64 st) := by rw [hbx.cell]; rfl
  have b6 : w1.cell? ⟨w.heap.size, 6, none⟩ = some (.slice ao l.length cap) := by rw [hbx.cell]; rfl
  clear hbx
  have hl1 := hl.keeps hn (fun _ _ h => h)
  clear hl
  by_cases hp : 0 < l.length
  · have hlast := getLast_getD hp
    have HI : RowKit.Hid (Rl.lastI ⟨si, st, sc, sd⟩ l = (l.getD (l.length - 1) Ent.zero).index) := Lib.hid (by unfold Rl.lastI; rw [hlast])
    have HT : RowKit.Hid (Rl.lastT ⟨si, st, sc, sd⟩ l = (l.getD (l.length - 1) Ent.zero).term) := Lib.hid (by unfold Rl.lastT; rw [hlast])
    obtain ⟨b, off, rfl, e0, e1, -, -⟩ := hl1.cell (l.length - 1) (by omega)
    obtain ⟨n, hn1⟩ : ∃ n, l.length = n + 1 := ⟨l.length - 1, by omega⟩
    rw [hn1] at b6 e0 e1 HI HT hll
    rw [Nat.add_sub_cancel] at e0 e1 HI HT
    generalize l.getD n Ent.zero = x at e0 e1 HI HT
    clear hlast hp hl1 hn1
    go_wp2_with fail
    go_quiet (fail)
    go_wp2_with fail
    go_ret2
    exact ⟨by rw [HI.out, HT.out]; rfl, hn.drewN _⟩
  · obtain rfl : l = [] := List.length_eq_zero_iff.1 (by omega)
    clear hl1
    go_wp2_with fail
    go_quiet (fail)
    go_wp2_with fail
    go_ret2
    exact ⟨rfl, hn.drewN _⟩
end Go.Proofs.Ytekmjhenhgmpgaa
