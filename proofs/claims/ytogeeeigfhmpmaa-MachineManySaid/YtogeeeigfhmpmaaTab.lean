/- The table of sessions in memory; session.Table's find. -/
import Derived.Test.YtogeeeigfhmpmaaRowk
import Derived.Test.YtogeeeigfhmpmaaMachI
import Derived.Test.YtogeeeigfhmpmaaReadK
namespace Go.Proofs.Ytogeeeigfhmpmaa
open Go.RowKit
set_option maxRecDepth 100000

def sesK : RowK Mc.Ses := ⟨fun x => [.int .u64 x.id, .int .u64 x.used, .int .u64 x.seq, .int .i64 x.rep.err, .int .u64 x.rep.num, .int .u64 x.rep.extra], 6, ⟨0, 0, 0, ⟨0, 0, 0⟩⟩, by decide, fun _ => rfl, by
  intro x u hu
  simp at hu
  rcases hu with rfl | rfl | rfl | rfl | rfl | rfl <;> rfl⟩
theorem sesT : RowT Try.prog sesK 58 55 (.agg #[.int .u64 0, .int .u64 0, .int .u64 0, .int .i64 0, .int .u64 0, .int .u64 0]) 48 := ⟨by kernel_rfl, by kernel_rfl, rfl, by decide⟩
/-- block tb is a table, v its row -/
structure TabAt (w : World) (tb : Nat) (v : Value) (t : Mc.Tab) : Prop where
  blk : Blk w tb #[.int .u64 t.now, .int .u64 t.next, v] 112
  row : RowAt sesK 58 w 0 v t.rows
/-- behind a call the table is t' -/
structure TabTo (tb : Nat) (v : Value) (t' : Mc.Tab) (w w' : World) (v' : Value) : Prop where
  tab : TabAt w' tb v' t'
  row : ∀ k, v'.ownBlock = some k → v.ownBlock = some k ∨ w.heap.size ≤ k
  only : Only (fun k => k = tb ∨ v.ownBlock = some k) w w'
section
variable {w w' : World} {tb : Nat} {v : Value} {t : Mc.Tab}
theorem TabAt.keeps {S : Nat → Prop} (h : TabAt w tb v t) (ho : Only S w w') (h1 : ¬ S tb) (h2 : ∀ k, v.ownBlock = some k → ¬ S k) : TabAt w' tb v t := ⟨h.blk.keeps ho h1, h.row.keeps ho h2⟩
theorem TabAt.keepsN (h : TabAt w tb v t) (ho : Only NoBlock w w') : TabAt w' tb v t := h.keeps ho (fun h => h) (fun _ _ h => h)
theorem TabAt.apart (h : TabAt w tb v t) : ∀ k, v.ownBlock = some k → k ≠ tb := fun _ hk => (h.row.ofT hk).ne_blk h.blk (by decide)
end
def findV (t : Mc.Tab) (id : Nat) : Int := match Mc.find t.rows id with | some i => (i : Int) | none => -1
theorem find_stop {l : List Mc.Ses} {id k : Nat} (hk : k < l.length) (h0 : ∀ j (hj : j < l.length), j < k → l[j].id ≠ id) (h1 : l[k].id = id) : Mc.find l id = some k := by
  unfold Mc.find
  rw [List.findIdx?_eq_some_iff_getElem]
  refine ⟨hk, by simpa using h1, fun j hj => ?_⟩
  simpa using h0 j (by omega) hj
theorem find_end {l : List Mc.Ses} {id : Nat} (h0 : ∀ j (hj : j < l.length), l[j].id ≠ id) : Mc.find l id = none := by
  unfold Mc.find
  rw [List.findIdx?_eq_none_iff]
  intro x hx
  obtain ⟨j, hj, rfl⟩ := List.mem_iff_getElem.1 hx
  simpa using h0 j hj

set_option maxHeartbeats 1600000 in
theorem sfind_at (w : World) (tb : Nat) (v : Value) (t : Mc.Tab) (h : TabAt w tb v t) (hl : t.rows.length ≤ 16) (id : Nat) :
    Calls Try.prog 61 #[.pointer (some ⟨tb, 0, none⟩), .int .u64 id] w fun e w' => e = .returned (.int .i64 (findV t id)) ∧ Only NoBlock w w' := by
  obtain ⟨now, next, l⟩ := t
  obtain ⟨hB, hrow⟩ := h
  simp only at hB hrow hl
  obtain ⟨ao, cap, rfl, hin⟩ := hrow.read
  have c2 := hB.cell 2
  simp only [List.getElem?_toArray, List.getElem?_cons_succ, List.getElem?_cons_zero] at c2
  go_enter Try.func61, Try.ntmps61
  go_wp2_with fail
  go_loopw [14] (fun v14 wr => ∃ k : Nat, k ≤ l.length ∧ v14 = .int .i64 k ∧ RowKit.Hid (∀ j (hj : j < l.length), j < k → l[j].id ≠ id) ∧ Only NoBlock w wr) (fun v14 _ => l.length - (intOf v14).toNat)
  case atStart => exact ⟨0, by omega, rfl, Lib.hid (fun j _ hj => by omega), Only.refl _ _⟩
  case round =>
    obtain ⟨k, hk, rfl, HN, hO⟩ := hrel
    by_cases hlt : k < l.length
    · have hin2 := hin.keepsN hO
      obtain ⟨b, off, rfl⟩ := hin2.shape (by omega)
      have hg : l.getD k sesK.zero = l[k] := by rw [List.getD_eq_getElem?_getD, List.getElem?_eq_getElem hlt]; rfl
      have e0 := hin2.at hlt (j := 0) (by decide)
      have e1 := hin2.at hlt (j := 1) (by decide)
      have e2 := hin2.at hlt (j := 2) (by decide)
      have e3 := hin2.at hlt (j := 3) (by decide)
      have e4 := hin2.at hlt (j := 4) (by decide)
      have e5 := hin2.at hlt (j := 5) (by decide)
      rw [hg] at e0 e1 e2 e3 e4 e5
      obtain ⟨⟨xi, xu, xs, ⟨ye, yn, yx⟩⟩, hx⟩ : ∃ x, l[k] = x := ⟨_, rfl⟩
      rw [hx] at e0 e1 e2 e3 e4 e5
      have HX := Lib.hid hx
      clear hx hg hin hin2
      simp only [sesK, List.getElem?_cons_succ, List.getElem?_cons_zero, Nat.add_zero] at e0 e1 e2 e3 e4 e5
      have hA := (Only.refl NoBlock wr).alloc (Obj.cells #[.int .u64 xi, .int .u64 xu, .int .u64 xs, .int .i64 ye, .int .u64 yn, .int .u64 yx] 58)
      by_cases hid : xi = id
      · have d0 : ((xi : Int) == (id : Int)) = true := by simp; omega
        have HF : RowKit.Hid (findV ⟨now, next, l⟩ id = (k : Int)) := Lib.hid (by unfold findV; simp only; rw [find_stop hlt HN.out (by rw [HX.out]; exact hid)])
        clear hid
        go_wp2_with fail
        go_ret
        exact ⟨by rw [HF.out]; rfl, hO.trans hA⟩
      · have d0 : ((xi : Int) == (id : Int)) = false := by simp; omega
        have HN2 : RowKit.Hid (∀ j (hj : j < l.length), j < k + 1 → l[j].id ≠ id) := Lib.hid (fun j hj hjk => by
          by_cases hjk' : j < k
          · exact HN.out j hj hjk'
          · obtain rfl : j = k := by omega
            rw [HX.out]; exact hid)
        clear hid
        go_wp2_with fail
        go_roundw
        case rel => exact ⟨k + 1, by omega, by go_num, HN2, hO.trans hA⟩
        case measure =>
          (try simp [intOf])
          (try omega)
    · obtain rfl : k = l.length := by omega
      have HF : RowKit.Hid (findV ⟨now, next, l⟩ id = -1) := Lib.hid (by unfold findV; simp only; rw [find_end (fun j hj => HN.out j hj hj)])
      go_wp2_with fail
      go_ret
      exact ⟨by rw [HF.out]; rfl, hO⟩
end Go.Proofs.Ytogeeeigfhmpmaa
