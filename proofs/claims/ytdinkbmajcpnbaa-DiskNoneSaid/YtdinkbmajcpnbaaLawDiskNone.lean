/- A disk that is none is off, and has nothing: the walk of the law. -/
import Derived.Test.YtdinkbmajcpnbaaBegun4
namespace Go.Proofs.Ytdinkbmajcpnbaa
open Go.RowKit Go.Maps

theorem append_nil_as {w : World} {n k : Int} {s : ByteArray} (hk : (if n < 0 ∨ 16 ≤ n then 1 else 10 : Int) = k) :
    Calls Try.prog 13 #[.pointer none, .int .i64 n, .string s] w fun e w' => e = .returned (.int .i64 k) ∧ w = w' := by
  subst hk; exact append_nil w n s
theorem replace_nil_as {w : World} {n k : Int} {s : ByteArray} (hk : (if n < 0 ∨ 16 ≤ n then 1 else 10 : Int) = k) :
    Calls Try.prog 26 #[.pointer none, .int .i64 n, .string s] w fun e w' => e = .returned (.int .i64 k) ∧ Only NoBlock w w' := by
  subst hk; exact replace_nil w n s

theorem walk_DiskNone (a0 : Int) (w0 : (Lit.int .i64 a0).wf = true) (a1 : ByteArray) (w1 : a1.size ≤ maxLen) (w : World) :
    Calls Try.prog 7 #[.int .i64 a0, .string a1] w fun e w' => e = .returned (.bool true) ∧ Below w.heap.size w w' := by
  clear w0 w1
  have hc : a0 < 0 ∨ 16 ≤ a0 ∨ (0 ≤ a0 ∧ a0 < 16) := by omega
  rcases hc with hc | hc | ⟨hc, hc2⟩
  · have e1 : (if a0 < 0 ∨ 16 ≤ a0 then 1 else 10 : Int) = 1 := by rw [if_pos (Or.inl hc)]
    have E1 := Lib.hid e1
    clear e1
    go_enter Try.func7, Try.ntmps7
    go_wp2_with (first
      | (go_at_call 9; refine (begun_ok _).mono ?_; rintro e w1 ⟨rfl, ho1⟩)
      | (go_at_call 11; refine (fuel_nil _ _).mono ?_; rintro e w2 ⟨rfl, rfl⟩)
      | (go_at_call 18; refine (read_nil _ _).mono ?_; rintro e w3 ⟨rfl, rfl⟩)
      | (go_at_call 12; refine (off_nil _).mono ?_; rintro e w4 ⟨rfl, rfl⟩)
      | (go_at_call 14; refine (used_nil _).mono ?_; rintro e w5 ⟨rfl, rfl⟩)
      | (go_at_call 24; refine (free_nil _).mono ?_; rintro e w6 ⟨rfl, rfl⟩)
      | (go_at_call 13; refine (append_nil_as E1.out).mono ?_; rintro e w7 ⟨rfl, rfl⟩)
      | (go_at_call 26; refine (replace_nil_as E1.out).mono ?_; rintro e w8 ⟨rfl, ho8⟩)
      | (go_at_call 27; refine (sync_nil _ _).mono ?_; rintro e w9 ⟨rfl, rfl⟩)
      | (go_at_call 28; refine (remove_nil _ _).mono ?_; rintro e w10 ⟨rfl, rfl⟩)
      | (go_at_call 21; refine (files_nil _).mono ?_; rintro e w11 ⟨rfl, rfl⟩)
      | (go_at_call 17; refine (crash_nil _ _).mono ?_; rintro e w12 ⟨rfl, rfl⟩))
    go_ret
    exact ⟨rfl, ((ho1.trans ho8).alloc _).below (Nat.le_refl _) (fun _ h => h.elim)⟩
  · have e1 : (if a0 < 0 ∨ 16 ≤ a0 then 1 else 10 : Int) = 1 := by rw [if_pos (Or.inr hc)]
    have E1 := Lib.hid e1
    clear e1
    have hn : ¬ a0 < 0 := by omega
    go_enter Try.func7, Try.ntmps7
    go_wp2_with (first
      | (go_at_call 9; refine (begun_ok _).mono ?_; rintro e w1 ⟨rfl, ho1⟩)
      | (go_at_call 11; refine (fuel_nil _ _).mono ?_; rintro e w2 ⟨rfl, rfl⟩)
      | (go_at_call 18; refine (read_nil _ _).mono ?_; rintro e w3 ⟨rfl, rfl⟩)
      | (go_at_call 12; refine (off_nil _).mono ?_; rintro e w4 ⟨rfl, rfl⟩)
      | (go_at_call 14; refine (used_nil _).mono ?_; rintro e w5 ⟨rfl, rfl⟩)
      | (go_at_call 24; refine (free_nil _).mono ?_; rintro e w6 ⟨rfl, rfl⟩)
      | (go_at_call 13; refine (append_nil_as E1.out).mono ?_; rintro e w7 ⟨rfl, rfl⟩)
      | (go_at_call 26; refine (replace_nil_as E1.out).mono ?_; rintro e w8 ⟨rfl, ho8⟩)
      | (go_at_call 27; refine (sync_nil _ _).mono ?_; rintro e w9 ⟨rfl, rfl⟩)
      | (go_at_call 28; refine (remove_nil _ _).mono ?_; rintro e w10 ⟨rfl, rfl⟩)
      | (go_at_call 21; refine (files_nil _).mono ?_; rintro e w11 ⟨rfl, rfl⟩)
      | (go_at_call 17; refine (crash_nil _ _).mono ?_; rintro e w12 ⟨rfl, rfl⟩))
    go_ret
    exact ⟨rfl, ((ho1.trans ho8).alloc _).below (Nat.le_refl _) (fun _ h => h.elim)⟩
  · have e1 : (if a0 < 0 ∨ 16 ≤ a0 then 1 else 10 : Int) = 10 := by rw [if_neg (by omega)]
    have E1 := Lib.hid e1
    clear e1
    go_enter Try.func7, Try.ntmps7
    go_wp2_with (first
      | (go_at_call 9; refine (begun_ok _).mono ?_; rintro e w1 ⟨rfl, ho1⟩)
      | (go_at_call 11; refine (fuel_nil _ _).mono ?_; rintro e w2 ⟨rfl, rfl⟩)
      | (go_at_call 18; refine (read_nil _ _).mono ?_; rintro e w3 ⟨rfl, rfl⟩)
      | (go_at_call 12; refine (off_nil _).mono ?_; rintro e w4 ⟨rfl, rfl⟩)
      | (go_at_call 14; refine (used_nil _).mono ?_; rintro e w5 ⟨rfl, rfl⟩)
      | (go_at_call 24; refine (free_nil _).mono ?_; rintro e w6 ⟨rfl, rfl⟩)
      | (go_at_call 13; refine (append_nil_as E1.out).mono ?_; rintro e w7 ⟨rfl, rfl⟩)
      | (go_at_call 26; refine (replace_nil_as E1.out).mono ?_; rintro e w8 ⟨rfl, ho8⟩)
      | (go_at_call 27; refine (sync_nil _ _).mono ?_; rintro e w9 ⟨rfl, rfl⟩)
      | (go_at_call 28; refine (remove_nil _ _).mono ?_; rintro e w10 ⟨rfl, rfl⟩)
      | (go_at_call 21; refine (files_nil _).mono ?_; rintro e w11 ⟨rfl, rfl⟩)
      | (go_at_call 17; refine (crash_nil _ _).mono ?_; rintro e w12 ⟨rfl, rfl⟩))
    go_ret
    exact ⟨rfl, ((ho1.trans ho8).alloc _).below (Nat.le_refl _) (fun _ h => h.elim)⟩

end Go.Proofs.Ytdinkbmajcpnbaa
