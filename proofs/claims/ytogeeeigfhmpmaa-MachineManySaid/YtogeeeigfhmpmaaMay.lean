/- command.May: may a command be? -/
import Derived.Test.YtogeeeigfhmpmaaStpK
import Derived.Test.YtogeeeigfhmpmaaCmdB
namespace Go.Proofs.Ytogeeeigfhmpmaa
open Go.RowKit
set_option maxRecDepth 100000

/-- a command's value: its steps lie at ao -/
def cmdV (c : Pk.Cmd) (ao : Option Addr) (cap : Nat) : Value := .agg #[.int .i64 c.kind, .int .u64 c.session, .int .u64 c.seq, .int .u64 c.saga, .slice ao c.steps.length cap, .int .i64 c.step, .bool c.back, .int .i64 c.try_, .bool c.ok, .int .u64 c.now]
theorem may_bare {k : Nat} (hk : k = 1 ∨ k = 3 ∨ k = 5) (a b c : Nat) (l : List Pk.Stp) (st : Nat) (bk : Bool) (tr : Nat) (ok : Bool) (now : Nat) : Pk.may ⟨k, a, b, c, l, st, bk, tr, ok, now⟩ = (decide (l.length = 0) && decide (st = 0) && !bk && decide (tr = 0) && !ok) := by
  unfold Pk.may Pk.bare
  rw [if_pos hk]
  cases l <;> simp [Bool.and_assoc]
theorem may_two (a b c : Nat) (l : List Pk.Stp) (st : Nat) (bk : Bool) (tr : Nat) (ok : Bool) (now : Nat) : Pk.may ⟨2, a, b, c, l, st, bk, tr, ok, now⟩ = (Pk.okSs l && decide (st = 0) && !bk && decide (tr = 0) && !ok) := by
  unfold Pk.may Pk.bare
  rw [if_neg (by simp), if_pos rfl]
  simp [Bool.and_assoc]
theorem may_four (a b c : Nat) (l : List Pk.Stp) (st : Nat) (bk : Bool) (tr : Nat) (ok : Bool) (now : Nat) : Pk.may ⟨4, a, b, c, l, st, bk, tr, ok, now⟩ = (decide (l.length = 0) && decide (st < 64) && decide (tr < 9) && decide (a = 0) && decide (b = 0)) := by
  unfold Pk.may
  rw [if_neg (by simp), if_neg (by simp), if_pos rfl]
  cases l <;> simp [Bool.and_assoc]
theorem may_else {k : Nat} (h1 : ¬ k = 1) (h2 : ¬ k = 2) (h3 : ¬ k = 3) (h4 : ¬ k = 4) (h5 : ¬ k = 5) (a b c : Nat) (l : List Pk.Stp) (st : Nat) (bk : Bool) (tr : Nat) (ok : Bool) (now : Nat) : Pk.may ⟨k, a, b, c, l, st, bk, tr, ok, now⟩ = false := by
  unfold Pk.may
  rw [if_neg (by simp only; omega), if_neg h2, if_neg h4]

set_option maxHeartbeats 1600000 in
theorem may1_at (w : World) (a b c : Nat) (l : List Pk.Stp) (ao : Option Addr) (cap : Nat) (st : Nat) (bk : Bool) (tr : Nat) (ok : Bool) (now : Nat) (hsm : Smalls l) (_hrow : RowIn stpK 38 w ao l) :
    Calls Try.prog 58 #[.agg #[.int .i64 1, .int .u64 a, .int .u64 b, .int .u64 c, .slice ao l.length cap, .int .i64 st, .bool bk, .int .i64 tr, .bool ok, .int .u64 now]] w fun e w' => e = .returned (.bool (Pk.may ⟨1, a, b, c, l, st, bk, tr, ok, now⟩)) ∧ Only NoBlock w w' := by
  have hA := (Only.refl NoBlock w).alloc (Obj.cells #[.int .i64 (1 : Nat), .int .u64 a, .int .u64 b, .int .u64 c, .slice ao l.length cap, .int .i64 st, .bool bk, .int .i64 tr, .bool ok, .int .u64 now] 31)
  have hn64 := hsm.1

  have hm := may_bare (k := 1) (by omega) a b c l st bk tr ok now
  have HM := Lib.hid hm
  clear hm
  clear _hrow hsm
  generalize Pk.may _ = m at HM ⊢
  generalize l.length = n at HM hA hn64 ⊢
  go_enter Try.func58, Try.ntmps58
  by_cases hl : n = 0
  · have dhl : ((n : Int) == 0) = true := by simp; omega
    by_cases hs : st = 0
    · have dhs : ((st : Int) == 0) = true := by simp; omega
      cases bk with
      | true =>
        have HB : RowKit.Hid (m = false) := Lib.hid ((HM.out).trans (by simp [hl, hs]))
        clear hl hs
        go_wp2_with fail
        go_ret
        exact ⟨by rw [HB.out]; rfl, hA⟩
      | false =>
        by_cases ht : tr = 0
        · have dht : ((tr : Int) == 0) = true := by simp; omega
          cases ok with
          | true =>
            have HB : RowKit.Hid (m = false) := Lib.hid ((HM.out).trans (by simp [hl, hs, ht]))
            clear hl hs ht
            go_wp2_with fail
            go_ret
            exact ⟨by rw [HB.out]; rfl, hA⟩
          | false =>
            have HB : RowKit.Hid (m = true) := Lib.hid ((HM.out).trans (by simp [hl, hs, ht]))
            clear hl hs ht
            go_wp2_with fail
            go_ret
            exact ⟨by rw [HB.out]; rfl, hA⟩
        · have dht : ((tr : Int) == 0) = false := by simp; omega
          have HB : RowKit.Hid (m = false) := Lib.hid ((HM.out).trans (by simp [hl, hs, ht]))
          clear hl hs ht
          go_wp2_with fail
          go_ret
          exact ⟨by rw [HB.out]; rfl, hA⟩
    · have dhs : ((st : Int) == 0) = false := by simp; omega
      have HB : RowKit.Hid (m = false) := Lib.hid ((HM.out).trans (by simp [hl, hs]))
      clear hl hs
      go_wp2_with fail
      go_ret
      exact ⟨by rw [HB.out]; rfl, hA⟩
  · have dhl : ((n : Int) == 0) = false := by simp; omega
    have HB : RowKit.Hid (m = false) := Lib.hid ((HM.out).trans (by simp [hl]))
    clear hl
    go_wp2_with fail
    go_ret
    exact ⟨by rw [HB.out]; rfl, hA⟩
set_option maxHeartbeats 1600000 in
theorem may3_at (w : World) (a b c : Nat) (l : List Pk.Stp) (ao : Option Addr) (cap : Nat) (st : Nat) (bk : Bool) (tr : Nat) (ok : Bool) (now : Nat) (hsm : Smalls l) (_hrow : RowIn stpK 38 w ao l) :
    Calls Try.prog 58 #[.agg #[.int .i64 3, .int .u64 a, .int .u64 b, .int .u64 c, .slice ao l.length cap, .int .i64 st, .bool bk, .int .i64 tr, .bool ok, .int .u64 now]] w fun e w' => e = .returned (.bool (Pk.may ⟨3, a, b, c, l, st, bk, tr, ok, now⟩)) ∧ Only NoBlock w w' := by
  have hA := (Only.refl NoBlock w).alloc (Obj.cells #[.int .i64 (3 : Nat), .int .u64 a, .int .u64 b, .int .u64 c, .slice ao l.length cap, .int .i64 st, .bool bk, .int .i64 tr, .bool ok, .int .u64 now] 31)
  have hn64 := hsm.1

  have hm := may_bare (k := 3) (by omega) a b c l st bk tr ok now
  have HM := Lib.hid hm
  clear hm
  clear _hrow hsm
  generalize Pk.may _ = m at HM ⊢
  generalize l.length = n at HM hA hn64 ⊢
  go_enter Try.func58, Try.ntmps58
  by_cases hl : n = 0
  · have dhl : ((n : Int) == 0) = true := by simp; omega
    by_cases hs : st = 0
    · have dhs : ((st : Int) == 0) = true := by simp; omega
      cases bk with
      | true =>
        have HB : RowKit.Hid (m = false) := Lib.hid ((HM.out).trans (by simp [hl, hs]))
        clear hl hs
        go_wp2_with fail
        go_ret
        exact ⟨by rw [HB.out]; rfl, hA⟩
      | false =>
        by_cases ht : tr = 0
        · have dht : ((tr : Int) == 0) = true := by simp; omega
          cases ok with
          | true =>
            have HB : RowKit.Hid (m = false) := Lib.hid ((HM.out).trans (by simp [hl, hs, ht]))
            clear hl hs ht
            go_wp2_with fail
            go_ret
            exact ⟨by rw [HB.out]; rfl, hA⟩
          | false =>
            have HB : RowKit.Hid (m = true) := Lib.hid ((HM.out).trans (by simp [hl, hs, ht]))
            clear hl hs ht
            go_wp2_with fail
            go_ret
            exact ⟨by rw [HB.out]; rfl, hA⟩
        · have dht : ((tr : Int) == 0) = false := by simp; omega
          have HB : RowKit.Hid (m = false) := Lib.hid ((HM.out).trans (by simp [hl, hs, ht]))
          clear hl hs ht
          go_wp2_with fail
          go_ret
          exact ⟨by rw [HB.out]; rfl, hA⟩
    · have dhs : ((st : Int) == 0) = false := by simp; omega
      have HB : RowKit.Hid (m = false) := Lib.hid ((HM.out).trans (by simp [hl, hs]))
      clear hl hs
      go_wp2_with fail
      go_ret
      exact ⟨by rw [HB.out]; rfl, hA⟩
  · have dhl : ((n : Int) == 0) = false := by simp; omega
    have HB : RowKit.Hid (m = false) := Lib.hid ((HM.out).trans (by simp [hl]))
    clear hl
    go_wp2_with fail
    go_ret
    exact ⟨by rw [HB.out]; rfl, hA⟩
set_option maxHeartbeats 1600000 in
theorem may5_at (w : World) (a b c : Nat) (l : List Pk.Stp) (ao : Option Addr) (cap : Nat) (st : Nat) (bk : Bool) (tr : Nat) (ok : Bool) (now : Nat) (hsm : Smalls l) (_hrow : RowIn stpK 38 w ao l) :
    Calls Try.prog 58 #[.agg #[.int .i64 5, .int .u64 a, .int .u64 b, .int .u64 c, .slice ao l.length cap, .int .i64 st, .bool bk, .int .i64 tr, .bool ok, .int .u64 now]] w fun e w' => e = .returned (.bool (Pk.may ⟨5, a, b, c, l, st, bk, tr, ok, now⟩)) ∧ Only NoBlock w w' := by
  have hA := (Only.refl NoBlock w).alloc (Obj.cells #[.int .i64 (5 : Nat), .int .u64 a, .int .u64 b, .int .u64 c, .slice ao l.length cap, .int .i64 st, .bool bk, .int .i64 tr, .bool ok, .int .u64 now] 31)
  have hn64 := hsm.1

  have hm := may_bare (k := 5) (by omega) a b c l st bk tr ok now
  have HM := Lib.hid hm
  clear hm
  clear _hrow hsm
  generalize Pk.may _ = m at HM ⊢
  generalize l.length = n at HM hA hn64 ⊢
  go_enter Try.func58, Try.ntmps58
  by_cases hl : n = 0
  · have dhl : ((n : Int) == 0) = true := by simp; omega
    by_cases hs : st = 0
    · have dhs : ((st : Int) == 0) = true := by simp; omega
      cases bk with
      | true =>
        have HB : RowKit.Hid (m = false) := Lib.hid ((HM.out).trans (by simp [hl, hs]))
        clear hl hs
        go_wp2_with fail
        go_ret
        exact ⟨by rw [HB.out]; rfl, hA⟩
      | false =>
        by_cases ht : tr = 0
        · have dht : ((tr : Int) == 0) = true := by simp; omega
          cases ok with
          | true =>
            have HB : RowKit.Hid (m = false) := Lib.hid ((HM.out).trans (by simp [hl, hs, ht]))
            clear hl hs ht
            go_wp2_with fail
            go_ret
            exact ⟨by rw [HB.out]; rfl, hA⟩
          | false =>
            have HB : RowKit.Hid (m = true) := Lib.hid ((HM.out).trans (by simp [hl, hs, ht]))
            clear hl hs ht
            go_wp2_with fail
            go_ret
            exact ⟨by rw [HB.out]; rfl, hA⟩
        · have dht : ((tr : Int) == 0) = false := by simp; omega
          have HB : RowKit.Hid (m = false) := Lib.hid ((HM.out).trans (by simp [hl, hs, ht]))
          clear hl hs ht
          go_wp2_with fail
          go_ret
          exact ⟨by rw [HB.out]; rfl, hA⟩
    · have dhs : ((st : Int) == 0) = false := by simp; omega
      have HB : RowKit.Hid (m = false) := Lib.hid ((HM.out).trans (by simp [hl, hs]))
      clear hl hs
      go_wp2_with fail
      go_ret
      exact ⟨by rw [HB.out]; rfl, hA⟩
  · have dhl : ((n : Int) == 0) = false := by simp; omega
    have HB : RowKit.Hid (m = false) := Lib.hid ((HM.out).trans (by simp [hl]))
    clear hl
    go_wp2_with fail
    go_ret
    exact ⟨by rw [HB.out]; rfl, hA⟩
set_option maxHeartbeats 1600000 in
theorem may2_at (w : World) (a b c : Nat) (l : List Pk.Stp) (ao : Option Addr) (cap : Nat) (st : Nat) (bk : Bool) (tr : Nat) (ok : Bool) (now : Nat) (hsm : Smalls l) (hrow : RowIn stpK 38 w ao l) :
    Calls Try.prog 58 #[.agg #[.int .i64 2, .int .u64 a, .int .u64 b, .int .u64 c, .slice ao l.length cap, .int .i64 st, .bool bk, .int .i64 tr, .bool ok, .int .u64 now]] w fun e w' => e = .returned (.bool (Pk.may ⟨2, a, b, c, l, st, bk, tr, ok, now⟩)) ∧ Only NoBlock w w' := by
  have hA := (Only.refl NoBlock w).alloc (Obj.cells #[.int .i64 (2 : Nat), .int .u64 a, .int .u64 b, .int .u64 c, .slice ao l.length cap, .int .i64 st, .bool bk, .int .i64 tr, .bool ok, .int .u64 now] 31)
  have hn64 := hsm.1

  have hm := may_two a b c l st bk tr ok now
  have HM := Lib.hid hm
  clear hm
  generalize Pk.may _ = m at HM ⊢
  have hck := checkS_at _ ao cap l (hrow.keepsN hA) hsm
  go_enter Try.func58, Try.ntmps58
  go_wp2_with fail
  refine hck.mono ?_
  rintro e w2 ⟨rfl, hO2⟩
  have hO := hA.trans hO2
  have hBx := (Blk.made w #[.int .i64 (2 : Nat), .int .u64 a, .int .u64 b, .int .u64 c, .slice ao l.length cap, .int .i64 st, .bool bk, .int .i64 tr, .bool ok, .int .u64 now] 31).keeps hO2 (fun h => h)
  have c5 := hBx.cell 5
  have c6 := hBx.cell 6
  have c7 := hBx.cell 7
  have c8 := hBx.cell 8
  simp only [List.getElem?_toArray, List.getElem?_cons_succ, List.getElem?_cons_zero] at c5 c6 c7 c8
  clear hrow hsm hck hO2 hA hBx
  cases hok : Pk.okSs l with
  | false =>
    have HB : RowKit.Hid (m = false) := Lib.hid (HM.out.trans (by simp [hok]))
    clear hok
    go_wp2_with fail
    go_ret
    exact ⟨by rw [HB.out]; rfl, hO⟩
  | true =>
    by_cases hs : st = 0
    · have dhs : ((st : Int) == 0) = true := by simp; omega
      cases bk with
      | true =>
        have HB : RowKit.Hid (m = false) := Lib.hid ((HM.out).trans (by simp [hok, hs]))
        clear hok hs
        go_wp2_with fail
        go_ret
        exact ⟨by rw [HB.out]; rfl, hO⟩
      | false =>
        by_cases ht : tr = 0
        · have dht : ((tr : Int) == 0) = true := by simp; omega
          cases ok with
          | true =>
            have HB : RowKit.Hid (m = false) := Lib.hid ((HM.out).trans (by simp [hok, hs, ht]))
            clear hok hs ht
            go_wp2_with fail
            go_ret
            exact ⟨by rw [HB.out]; rfl, hO⟩
          | false =>
            have HB : RowKit.Hid (m = true) := Lib.hid ((HM.out).trans (by simp [hok, hs, ht]))
            clear hok hs ht
            go_wp2_with fail
            go_ret
            exact ⟨by rw [HB.out]; rfl, hO⟩
        · have dht : ((tr : Int) == 0) = false := by simp; omega
          have HB : RowKit.Hid (m = false) := Lib.hid ((HM.out).trans (by simp [hok, hs, ht]))
          clear hok hs ht
          go_wp2_with fail
          go_ret
          exact ⟨by rw [HB.out]; rfl, hO⟩
    · have dhs : ((st : Int) == 0) = false := by simp; omega
      have HB : RowKit.Hid (m = false) := Lib.hid ((HM.out).trans (by simp [hok, hs]))
      clear hok hs
      go_wp2_with fail
      go_ret
      exact ⟨by rw [HB.out]; rfl, hO⟩
set_option maxHeartbeats 1600000 in
theorem may4_at (w : World) (a b c : Nat) (l : List Pk.Stp) (ao : Option Addr) (cap : Nat) (st : Nat) (bk : Bool) (tr : Nat) (ok : Bool) (now : Nat) (hsm : Smalls l) (_hrow : RowIn stpK 38 w ao l) :
    Calls Try.prog 58 #[.agg #[.int .i64 4, .int .u64 a, .int .u64 b, .int .u64 c, .slice ao l.length cap, .int .i64 st, .bool bk, .int .i64 tr, .bool ok, .int .u64 now]] w fun e w' => e = .returned (.bool (Pk.may ⟨4, a, b, c, l, st, bk, tr, ok, now⟩)) ∧ Only NoBlock w w' := by
  have hA := (Only.refl NoBlock w).alloc (Obj.cells #[.int .i64 (4 : Nat), .int .u64 a, .int .u64 b, .int .u64 c, .slice ao l.length cap, .int .i64 st, .bool bk, .int .i64 tr, .bool ok, .int .u64 now] 31)
  have hn64 := hsm.1

  have hm := may_four a b c l st bk tr ok now
  have HM := Lib.hid hm
  clear hm
  clear _hrow hsm
  generalize Pk.may _ = m at HM ⊢
  generalize l.length = n at HM hA hn64 ⊢
  go_enter Try.func58, Try.ntmps58
  by_cases hl : n = 0
  · have dhl : ((n : Int) == 0) = true := by simp; omega
    by_cases hs : st < 64
    · have dhs : decide ((st : Int) < 64) = true := by simp; omega
      by_cases ht : tr < 9
      · have dht : decide ((tr : Int) < 9) = true := by simp; omega
        by_cases ha : a = 0
        · have dha : ((a : Int) == 0) = true := by simp; omega
          by_cases hb : b = 0
          · have dhb : ((b : Int) == 0) = true := by simp; omega
            have HB : RowKit.Hid (m = true) := Lib.hid ((HM.out).trans (by simp [hl, hs, ht, ha, hb]))
            clear hl hs ht ha hb
            go_wp2_with fail
            go_ret
            exact ⟨by rw [HB.out]; rfl, hA⟩
          · have dhb : ((b : Int) == 0) = false := by simp; omega
            have HB : RowKit.Hid (m = false) := Lib.hid ((HM.out).trans (by simp [hl, hs, ht, ha, hb]))
            clear hl hs ht ha hb
            go_wp2_with fail
            go_ret
            exact ⟨by rw [HB.out]; rfl, hA⟩
        · have dha : ((a : Int) == 0) = false := by simp; omega
          have HB : RowKit.Hid (m = false) := Lib.hid ((HM.out).trans (by simp [hl, hs, ht, ha]))
          clear hl hs ht ha
          go_wp2_with fail
          go_ret
          exact ⟨by rw [HB.out]; rfl, hA⟩
      · have dht : decide ((tr : Int) < 9) = false := by simp; omega
        have HB : RowKit.Hid (m = false) := Lib.hid ((HM.out).trans (by simp [hl, hs, ht]))
        clear hl hs ht
        go_wp2_with fail
        go_ret
        exact ⟨by rw [HB.out]; rfl, hA⟩
    · have dhs : decide ((st : Int) < 64) = false := by simp; omega
      have HB : RowKit.Hid (m = false) := Lib.hid ((HM.out).trans (by simp [hl, hs]))
      clear hl hs
      go_wp2_with fail
      go_ret
      exact ⟨by rw [HB.out]; rfl, hA⟩
  · have dhl : ((n : Int) == 0) = false := by simp; omega
    have HB : RowKit.Hid (m = false) := Lib.hid ((HM.out).trans (by simp [hl]))
    clear hl
    go_wp2_with fail
    go_ret
    exact ⟨by rw [HB.out]; rfl, hA⟩
set_option maxHeartbeats 1600000 in
theorem mayE_at (w : World) (k : Nat) (h1 : ¬ k = 1) (h2 : ¬ k = 2) (h3 : ¬ k = 3) (h4 : ¬ k = 4) (h5 : ¬ k = 5) (a b c : Nat) (l : List Pk.Stp) (ao : Option Addr) (cap : Nat) (st : Nat) (bk : Bool) (tr : Nat) (ok : Bool) (now : Nat) (hsm : Smalls l) (_hrow : RowIn stpK 38 w ao l) :
    Calls Try.prog 58 #[.agg #[.int .i64 k, .int .u64 a, .int .u64 b, .int .u64 c, .slice ao l.length cap, .int .i64 st, .bool bk, .int .i64 tr, .bool ok, .int .u64 now]] w fun e w' => e = .returned (.bool (Pk.may ⟨k, a, b, c, l, st, bk, tr, ok, now⟩)) ∧ Only NoBlock w w' := by
  have hA := (Only.refl NoBlock w).alloc (Obj.cells #[.int .i64 k, .int .u64 a, .int .u64 b, .int .u64 c, .slice ao l.length cap, .int .i64 st, .bool bk, .int .i64 tr, .bool ok, .int .u64 now] 31)
  have hn64 := hsm.1
  have HB : RowKit.Hid (Pk.may _ = false) := Lib.hid (may_else h1 h2 h3 h4 h5 a b c l st bk tr ok now)
  have d1 : ((k : Int) == 1) = false := by simp; omega
  have d2 : ((k : Int) == 2) = false := by simp; omega
  have d3 : ((k : Int) == 3) = false := by simp; omega
  have d4 : ((k : Int) == 4) = false := by simp; omega
  have d5 : ((k : Int) == 5) = false := by simp; omega
  clear h1 h2 h3 h4 h5 _hrow hsm
  go_enter Try.func58, Try.ntmps58
  go_wp2_with fail
  go_ret
  exact ⟨by rw [HB.out]; rfl, hA⟩
theorem maycmd_at (w : World) (c : Pk.Cmd) (ao : Option Addr) (cap : Nat) (hsm : Smalls c.steps) (hrow : RowIn stpK 38 w ao c.steps) :
    Calls Try.prog 58 #[cmdV c ao cap] w fun e w' => e = .returned (.bool (Pk.may c)) ∧ Only NoBlock w w' := by
  obtain ⟨k, a, b, s, l, st, bk, tr, ok, now⟩ := c
  by_cases h1 : k = 1
  · subst h1; exact may1_at w a b s l ao cap st bk tr ok now hsm hrow
  by_cases h2 : k = 2
  · subst h2; exact may2_at w a b s l ao cap st bk tr ok now hsm hrow
  by_cases h3 : k = 3
  · subst h3; exact may3_at w a b s l ao cap st bk tr ok now hsm hrow
  by_cases h4 : k = 4
  · subst h4; exact may4_at w a b s l ao cap st bk tr ok now hsm hrow
  by_cases h5 : k = 5
  · subst h5; exact may5_at w a b s l ao cap st bk tr ok now hsm hrow
  exact mayE_at w k h1 h2 h3 h4 h5 a b s l ao cap st bk tr ok now hsm hrow
end Go.Proofs.Ytogeeeigfhmpmaa
