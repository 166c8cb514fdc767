/- The disk's calls with what they answer and leave given by equations; the anchor of the disk's statements holds. -/
import Derived.Test.YtekmjhenhgmpgaaDiskE
namespace Go.Proofs.Ytekmjhenhgmpgaa
open Go.RowKit Go.Maps

theorem append_as {w : World} {d mb : Nat} {M : DM} {n : Int} {s : ByteArray} (h : DiskAt w d mb M) (hs : s.size ≤ 9223372036854775807) {k : Int} {M' : DM} (hk : M.appendE n s = k) (hM : M.append n s = M') :
    Calls Try.prog 76 #[.pointer (some ⟨d, 0, none⟩), .int .i64 n, .string s] w fun e w' => e = .returned (.int .i64 k) ∧ DiskAt w' d mb M' ∧ Only (fun k => k = d ∨ k = mb) w w' := by
  subst hk; subst hM; exact append_at w d mb M n s h hs
theorem sync_as {w : World} {d mb : Nat} {M : DM} {n : Int} (h : DiskAt w d mb M) (hw : (Lit.int .i64 n).wf = true) {k : Int} {M' : DM} (hk : M.syncE n = k) (hM : M.sync n = M') :
    Calls Try.prog 61 #[.pointer (some ⟨d, 0, none⟩), .int .i64 n] w fun e w' => e = .returned (.int .i64 k) ∧ DiskAt w' d mb M' ∧ Only (fun k => k = d ∨ k = mb) w w' := by
  subst hk; subst hM; exact sync_at w d mb M n h hw
theorem read_as {w : World} {d mb : Nat} {M : DM} {n : Int} (h : DiskAt w d mb M) (hw : (Lit.int .i64 n).wf = true) {k : Int} {s : ByteArray} (hk : M.readE n = k) (hM : M.read n = s) :
    Calls Try.prog 20 #[.pointer (some ⟨d, 0, none⟩), .int .i64 n] w fun e w' => e = .returned (.tuple #[.string s, .int .i64 k]) ∧ Only NoBlock w w' := by
  subst hk; subst hM; exact read_at w d mb M n h hw
theorem used_as {w : World} {d mb : Nat} {M : DM} (h : DiskAt w d mb M) {k : Nat} (hk : M.used = k) :
    Calls Try.prog 31 #[.pointer (some ⟨d, 0, none⟩)] w fun e w' => e = .returned (.int .i64 k) ∧ DiskAt w' d mb M ∧ Only NoBlock w w' := by
  subst hk; exact used_at w d mb M h

theorem off_as {w : World} {d mb : Nat} {M : DM} (h : DiskAt w d mb M) {b : Bool} (hb : M.off = b) :
    Calls Try.prog 30 #[.pointer (some ⟨d, 0, none⟩)] w fun e w' => e = .returned (.bool b) ∧ w = w' := by
  subst hb; exact off_at w d mb M h
theorem crash_as {w : World} {d mb : Nat} {M : DM} {ao : Option Addr} {cap len : Nat} {l : List Int} (h : DiskAt w d mb M) (hl : IntsIn w ao l) (hlen : l.length = len) {M' : DM} (hM : M.crash (keepOf l) = M') :
    Calls Try.prog 27 #[.pointer (some ⟨d, 0, none⟩), .slice ao len cap] w fun e w' => e = .returned (.pointer (some ⟨w.heap.size + 1, 0, none⟩)) ∧ DiskAt w' (w.heap.size + 1) w.heap.size M' ∧ Only NoBlock w w' := by
  subst hlen; subst hM; exact crash_at w d mb M ao cap l h hl
theorem ints_one (w : World) (x : Int) (hx : (Lit.int .i64 x).wf = true) (t : TypeId) : IntsIn (w.alloc (.cells #[.int .i64 x] t)) (some ⟨w.heap.size, 0, none⟩) [x] := by
  refine ⟨by simpa using hx, by simp [maxLen], fun i hi => ⟨w.heap.size, 0, rfl, ?_⟩⟩
  have hi0 : i = 0 := by simp at hi; omega
  subst hi0
  simp

namespace Bg
def ab : ByteArray := ⟨#[97, 98]⟩
def cd : ByteArray := ⟨#[99, 100]⟩
def M0 : DM := DM.new 10
def M1 : DM := M0.append 0 ab
def M2 : DM := M1.sync 0
def M3 : DM := M2.append 0 cd
def M4 : DM := M3.crash (keepOf [1])
theorem e1 : M0.appendE 0 ab = 0 := by decide +kernel
theorem e2 : M1.syncE 0 = 0 := by decide +kernel
theorem e3 : M2.appendE 0 cd = 0 := by decide +kernel
theorem e4 : M4.readE 0 = 0 := by decide +kernel
theorem e5 : M4.read 0 = ⟨#[97, 98, 99]⟩ := by decide +kernel
theorem e6 : M3.used = 4 := by decide +kernel
end Bg

end Go.Proofs.Ytekmjhenhgmpgaa
