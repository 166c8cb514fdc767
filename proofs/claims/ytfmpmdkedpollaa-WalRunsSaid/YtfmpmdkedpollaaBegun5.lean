/- The anchor of the log's statements holds. -/
import Derived.Test.YtfmpmdkedpollaaLib5
namespace Go.Proofs.Ytfmpmdkedpollaa
open Go.RowKit

namespace Bg5
def ab : ByteArray := ⟨#[97, 98]⟩
def N0 : DM := DM.new 100
def N1 : DM := Wal.openM N0 0
def N2 : DM := Wal.app N1 0 [ab]
def N3 : DM := N2.crash (keepOf [])
def N4 : DM := Wal.openM N3 0
theorem e1 : Wal.openE N0 0 = 0 := by decide +kernel
theorem l1 : Wal.openL N0 0 = [] := by decide +kernel
theorem e2 : Wal.appE N1 0 [ab] = 0 := by decide +kernel
theorem s2 : (Wal.text [ab]).size ≤ 1000000000 := by decide +kernel
theorem e3 : Wal.openE N3 0 = 0 := by decide +kernel
theorem l3 : Wal.openL N3 0 = [ab] := by decide +kernel
theorem f0 : textOf (Wal.frame (nums ⟨#[]⟩)) = ⟨#[1, 1, 1, 1, 1, 0]⟩ := by decide +kernel
theorem ints_nil (w : World) : IntsIn w none [] := ⟨by simp, by simp [maxLen], fun i hi => by simp at hi⟩
end Bg5

set_option maxRecDepth 100000 in
set_option maxHeartbeats 2000000 in
theorem begun5_ok (w : World) :
    Calls Try.prog 10 #[] w fun e w' => e = .returned (.bool true) ∧ Only NoBlock w w' := by
  go_enter Try.func10, Try.ntmps10
  go_wp2_with fail
  refine (new_ok w 100 (by omega) (by omega)).mono ?_
  rintro e w1 ⟨rfl, hd1, ho1, hs1⟩
  clear hs1
  obtain ⟨d, hd⟩ : ∃ d, w.heap.size + 1 = d := ⟨_, rfl⟩
  obtain ⟨mb, hm⟩ : ∃ mb, w.heap.size = mb := ⟨_, rfl⟩
  have hdb : w.heap.size ≤ d := by omega
  have hmb : w.heap.size ≤ mb := by omega
  rw [hd, hm] at hd1
  rw [hd]
  clear hd hm
  have HX : RowKit.Hid (∀ k, (k = d ∨ k = mb) → ¬ k < w.heap.size) := Lib.hid (by rintro k (rfl | rfl) <;> omega)
  go_wp2_with fail
  refine (open_ok hd1 (by decide) Bg5.e1 (M' := Bg5.N1) rfl Bg5.l1).mono ?_
  rintro e w2 ⟨g, ao, cap, rfl, hg, hlog, -, -, hd2, ho2⟩
  have hO2 : Only NoBlock w w2 := ho1.andThen ho2 (fun i hi e => HX.out i e hi)
  clear ho1 ho2
  go_wp2_with fail
  have hal := (Only.refl NoBlock w2).alloc (Obj.cells #[Value.string { data := #[97, 98] }] 9)
  refine (log_append_as (hd2.keeps hal (fun h => h) (fun h => h)) (Blk.keeps hlog hal (fun h => h)) (by decide) (strs_one w2 Bg5.ab _) rfl Bg5.s2 Bg5.e2 (M' := Bg5.N2) rfl).mono ?_
  rintro e w3 ⟨rfl, hd3, ho3⟩
  have hO3 : Only NoBlock w w3 := (hO2.alloc _).andThen ho3 (fun i hi e => HX.out i e hi)
  clear hO2 ho3 hal hlog hd2 hd1
  go_wp2_with fail
  refine (crash_as hd3 (Bg5.ints_nil _) rfl (M' := Bg5.N3) rfl).mono ?_
  rintro e w4 ⟨rfl, hd4, ho4⟩
  have z4 := hO3.size
  have hO4 := hO3.trans ho4
  go_wp2_with fail
  refine (open_ok hd4 (by decide) Bg5.e3 (M' := Bg5.N4) rfl Bg5.l3).mono ?_
  rintro e w5 ⟨g5, ao5, cap5, rfl, hg5, hlog5, hs5, -, hd5, ho5⟩
  have hO5 : Only NoBlock w w5 := hO4.andThen ho5 (by rintro i hi (e | e) <;> omega)
  obtain ⟨b, off, rfl, hcell⟩ := hs5.at (k := 0) (by simp)
  have hcell' : w5.cell? ⟨b, off, none⟩ = some (.string Bg5.ab) := hcell
  clear hcell hs5 hd5 ho5 hlog5 hd4 ho4 hd3
  have hab : Bg5.ab.toList = [97, 98] := by decide +kernel
  go_wp2_with fail
  refine (frame_at w5 _ (by decide)).mono ?_
  rintro e w6 ⟨rfl, ho6⟩
  have hft : (textOf (Wal.frame (nums ⟨#[]⟩))).toList = [1, 1, 1, 1, 1, 0] := by decide +kernel
  generalize textOf (Wal.frame (nums ⟨#[]⟩)) = t at hft ⊢
  go_wp2_with fail
  go_ret
  exact ⟨rfl, hO5.trans ho6⟩

end Go.Proofs.Ytfmpmdkedpollaa
