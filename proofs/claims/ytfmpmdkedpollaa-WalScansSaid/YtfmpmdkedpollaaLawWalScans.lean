/- Any bytes are scanned as the document has it; frames are those that it has: the walk of the law. -/
import Derived.Test.YtfmpmdkedpollaaBegun5
import Derived.Test.YtfmpmdkedpollaaRframe5
namespace Go.Proofs.Ytfmpmdkedpollaa
open Go.RowKit

theorem rscan_as {w : World} {s : ByteArray} (hs : s.size ≤ 1000000000) {m : List ByteArray} {k : Nat} (h : (Wal.scan (nums s)).1.map textOf = m) (hk : (Wal.scan (nums s)).2 = k) :
    Calls Try.prog 12 #[.string s] w fun e w' => ∃ ao cap, e = .returned (.tuple #[.slice ao m.length cap, .int .i64 k]) ∧ StrsIn w' ao m ∧ (∀ a, ao = some a → w.heap.size ≤ a.block) ∧ Only NoBlock w w' := by
  subst h; subst hk
  refine (rscan_at w s hs).mono ?_
  rintro e w' ⟨v, rfl, hv, ho⟩
  have hlt := World.ownsRow.lt hv
  obtain ⟨ao, cap, rfl, hv, _⟩ := hv.isIn
  exact ⟨ao, cap, rfl, hv, fun a e => by subst e; exact (hlt _ rfl).1, ho⟩

set_option maxRecDepth 100000 in
set_option maxHeartbeats 2000000 in
theorem walk_scans (w : World) (s x : ByteArray) :
    Calls Try.prog 3 #[.string s, .string x] w fun e w' => e = .returned (.bool true) ∧ Only NoBlock w w' := by
  go_enter Try.func3, Try.ntmps3
  go_wp2_with fail
  refine (begun5_ok w).mono ?_
  rintro e w1 ⟨rfl, ho1⟩
  by_cases h1 : 20000 < s.size
  · have hd1 : decide ((20000 : Int) < (s.size : Int)) = true := by simp; omega
    clear h1
    go_wp2_with fail
    go_ret
    exact ⟨rfl, ho1⟩
  by_cases h2 : 20000 < x.size
  · have hd1 : decide ((20000 : Int) < (s.size : Int)) = false := by simp; omega
    have hd2 : decide ((20000 : Int) < (x.size : Int)) = true := by simp; omega
    clear h1 h2
    go_wp2_with fail
    go_ret
    exact ⟨rfl, ho1⟩
  have hs : s.size ≤ 1000000000 := by omega
  have hx : x.size ≤ 1000000000 := by omega
  have hd1 : decide ((20000 : Int) < (s.size : Int)) = false := by simp; omega
  have hd2 : decide ((20000 : Int) < (x.size : Int)) = false := by simp; omega
  clear h1 h2
  obtain ⟨l, hl⟩ : ∃ l, (Wal.scan (nums s)).1.map textOf = l := ⟨_, rfl⟩
  obtain ⟨k, hk⟩ : ∃ k, (Wal.scan (nums s)).2 = k := ⟨_, rfl⟩
  have HL := Lib.hid hl
  have HK := Lib.hid hk
  clear hl hk
  go_wp2_with fail
  refine (scan_as (w := w1) hs HL.out HK.out).mono ?_
  rintro e w2 ⟨ao2, cap2, rfl, hs2, hb2, ho2⟩
  go_wp2_with fail
  refine (rscan_as (w := w2) hs HL.out HK.out).mono ?_
  rintro e w3 ⟨ao3, cap3, rfl, hs3, hb3, ho3⟩
  have hs2' := hs2.keeps ho3 (fun _ _ h => h)
  have hO3 := (ho1.trans ho2).trans ho3
  obtain ⟨f, hf⟩ : ∃ f, textOf (Wal.frame (nums x)) = f := ⟨_, rfl⟩
  have hfr : ∀ W, Calls Try.prog 14 #[.string x] W fun e w' => e = .returned (.string f) ∧ Only NoBlock W w' := fun W => by rw [← hf]; exact frame_at W x hx
  have hrf : ∀ W, Calls Try.prog 15 #[.string x] W fun e w' => e = .returned (.string f) ∧ Only NoBlock W w' := fun W => by rw [← hf]; exact rframe_at W x hx
  have hsm : ∀ W, Only NoBlock w3 W → Calls Try.prog 13 #[.slice ao2 l.length cap2, .slice ao3 l.length cap3] W fun e w' => e = .returned (.bool true) ∧ ∃ q, w' = W.drewN q := fun W hW => same_as (hs2'.keeps hW (fun _ _ h => h)) (hs3.keeps hW (fun _ _ h => h)) rfl rfl (by simp)
  clear hf hs2 hs2' hs3 hb2 hb3
  go_wp2_with fail
  refine (hsm _ (Only.refl _ _)).mono ?_
  rintro e w4 ⟨rfl, q, rfl⟩
  have hO4 := hO3.drewN q
  go_wp2_with fail
  refine (hfr _).mono ?_
  rintro e w5 ⟨rfl, ho5⟩
  have hO5 := hO4.trans ho5
  go_wp2_with fail
  refine (hrf _).mono ?_
  rintro e w6 ⟨rfl, ho6⟩
  have hO6 := hO5.trans ho6
  go_wp2_with fail
  go_ret
  exact ⟨by simp, hO6⟩

theorem walk_WalScans {w : World} (s : ByteArray) (_hs : s.size ≤ maxLen) (x : ByteArray) (_hx : x.size ≤ maxLen) :
    Calls Try.prog 3 #[.string s, .string x] w fun e w' => e = .returned (.bool true) ∧ Below w.heap.size w w' :=
  (walk_scans w s x).mono fun _ _ ⟨he, ho⟩ => ⟨he, ho.below (Nat.le_refl _) (fun _ h => h.elim)⟩

end Go.Proofs.Ytfmpmdkedpollaa
