/- What the statements of this seat lean on, part G: what the program's and the document's functions compute, in plain data. -/
import Derived.Test.YtekmjhenhgmpgaaMF
import Derived.Deep.CutBlock
import Derived.Deep.RegionHeld3

/- The document's disk: lists by number. What each of its functions answers and leaves is what the plain disk says. -/
namespace Go.Proofs.Ytekmjhenhgmpgaa
open Go.RowKit Go.Maps
set_option maxRecDepth 100000

/-- the cells of a document's disk -/
structure RC (cs : Array Value) (fi so : Nat → ByteArray) (th : Nat → Bool) (room fuel : Int) (off : Bool) : Prop where
  size : cs.size = 51
  firm : ∀ i, i < 16 → cs[i]? = some (.string (fi i))
  soft : ∀ i, i < 16 → cs[16 + i]? = some (.string (so i))
  there : ∀ i, i < 16 → cs[32 + i]? = some (.bool (th i))
  room : cs[48]? = some (.int .i64 room)
  fuel : cs[49]? = some (.int .i64 fuel)
  off : cs[50]? = some (.bool off)

def upd {α : Type} (f : Nat → α) (n : Nat) (v : α) : Nat → α := fun i => if i = n then v else f i

section
variable {cs : Array Value} {fi so : Nat → ByteArray} {th : Nat → Bool} {room fuel : Int} {off : Bool}
theorem set_get {cs : Array Value} {k j : Nat} {v : Value} (hk : k < cs.size) : (cs.setIfInBounds k v)[j]? = if k = j then some v else cs[j]? := by
  rw [Array.getElem?_setIfInBounds]
  split
  · simp [hk]
  · rfl
theorem RC.setFirm (h : RC cs fi so th room fuel off) {n : Nat} (hn : n < 16) (s : ByteArray) : RC (cs.setIfInBounds n (.string s)) (upd fi n s) so th room fuel off := by
  have hs := h.size
  refine ⟨by simpa using hs, fun i hi => ?_, fun i hi => ?_, fun i hi => ?_, ?_, ?_, ?_⟩ <;> rw [set_get (by omega)]
  · unfold upd
    by_cases e : n = i
    · rw [if_pos e, if_pos e.symm]
    · rw [if_neg e, if_neg (fun q => e q.symm)]; exact h.firm i hi
  · rw [if_neg (by omega)]; exact h.soft i hi
  · rw [if_neg (by omega)]; exact h.there i hi
  · rw [if_neg (by omega)]; exact h.room
  · rw [if_neg (by omega)]; exact h.fuel
  · rw [if_neg (by omega)]; exact h.off
theorem RC.setSoft (h : RC cs fi so th room fuel off) {n : Nat} (hn : n < 16) (s : ByteArray) : RC (cs.setIfInBounds (16 + n) (.string s)) fi (upd so n s) th room fuel off := by
  have hs := h.size
  refine ⟨by simpa using hs, fun i hi => ?_, fun i hi => ?_, fun i hi => ?_, ?_, ?_, ?_⟩ <;> rw [set_get (by omega)]
  · rw [if_neg (by omega)]; exact h.firm i hi
  · unfold upd
    by_cases e : n = i
    · rw [if_pos (by omega), if_pos e.symm]
    · rw [if_neg (by omega), if_neg (fun q => e q.symm)]; exact h.soft i hi
  · rw [if_neg (by omega)]; exact h.there i hi
  · rw [if_neg (by omega)]; exact h.room
  · rw [if_neg (by omega)]; exact h.fuel
  · rw [if_neg (by omega)]; exact h.off
theorem RC.setThere (h : RC cs fi so th room fuel off) {n : Nat} (hn : n < 16) (b : Bool) : RC (cs.setIfInBounds (32 + n) (.bool b)) fi so (upd th n b) room fuel off := by
  have hs := h.size
  refine ⟨by simpa using hs, fun i hi => ?_, fun i hi => ?_, fun i hi => ?_, ?_, ?_, ?_⟩ <;> rw [set_get (by omega)]
  · rw [if_neg (by omega)]; exact h.firm i hi
  · rw [if_neg (by omega)]; exact h.soft i hi
  · unfold upd
    by_cases e : n = i
    · rw [if_pos (by omega), if_pos e.symm]
    · rw [if_neg (by omega), if_neg (fun q => e q.symm)]; exact h.there i hi
  · rw [if_neg (by omega)]; exact h.room
  · rw [if_neg (by omega)]; exact h.fuel
  · rw [if_neg (by omega)]; exact h.off
theorem RC.setFuel (h : RC cs fi so th room fuel off) (n : Int) : RC (cs.setIfInBounds 49 (.int .i64 n)) fi so th room n off := by
  have hs := h.size
  refine ⟨by simpa using hs, fun i hi => ?_, fun i hi => ?_, fun i hi => ?_, ?_, ?_, ?_⟩ <;> rw [set_get (by omega)]
  · rw [if_neg (by omega)]; exact h.firm i hi
  · rw [if_neg (by omega)]; exact h.soft i hi
  · rw [if_neg (by omega)]; exact h.there i hi
  · rw [if_neg (by omega)]; exact h.room
  · rw [if_pos rfl]
  · rw [if_neg (by omega)]; exact h.off
theorem RC.setOff (h : RC cs fi so th room fuel off) (b : Bool) : RC (cs.setIfInBounds 50 (.bool b)) fi so th room fuel b := by
  have hs := h.size
  refine ⟨by simpa using hs, fun i hi => ?_, fun i hi => ?_, fun i hi => ?_, ?_, ?_, ?_⟩ <;> rw [set_get (by omega)]
  · rw [if_neg (by omega)]; exact h.firm i hi
  · rw [if_neg (by omega)]; exact h.soft i hi
  · rw [if_neg (by omega)]; exact h.there i hi
  · rw [if_neg (by omega)]; exact h.room
  · rw [if_neg (by omega)]; exact h.fuel
  · rw [if_pos rfl]
end

/-- what the lists say is what the files are -/
structure Says (F : Fs) (fi so : Nat → ByteArray) (th : Nat → Bool) : Prop where
  firm : ∀ i : Nat, i < 16 → fi i = ((F i).getD noFile).1
  soft : ∀ i : Nat, i < 16 → so i = ((F i).getD noFile).2
  there : ∀ i : Nat, i < 16 → th i = (F i).isSome

/-- block r is a document's disk, and it is M -/
def RefAt (w : World) (r : Nat) (M : DM) : Prop :=
  M.Ok ∧ ∃ cs fi so th, Blk w r cs 89 ∧ RC cs fi so th M.room M.fuel M.off ∧ Says M.files fi so th

theorem RefAt.ok {w : World} {r : Nat} {M : DM} (h : RefAt w r M) : M.Ok := h.1
theorem RefAt.lt {w : World} {r : Nat} {M : DM} (h : RefAt w r M) : r < w.heap.size := by obtain ⟨_, cs, fi, so, th, hb, _⟩ := h; exact hb.lt
theorem RefAt.keeps {S : Nat → Prop} {w w' : World} {r : Nat} {M : DM} (h : RefAt w r M) (ho : Only S w w') (hs : ¬ S r) : RefAt w' r M := by
  obtain ⟨hk, cs, fi, so, th, hb, q⟩ := h
  exact ⟨hk, cs, fi, so, th, hb.keeps ho hs, q⟩
theorem RefAt.drew {w : World} {r : Nat} {M : DM} (h : RefAt w r M) : RefAt w.drew r M := h
theorem RefAt.drewN {w : World} {r : Nat} {M : DM} (h : RefAt w r M) (n : Nat) : RefAt (w.drewN n) r M := h
theorem RefAt.free {w : World} {r : Nat} {M : DM} (h : RefAt w r M) (i : Nat) : w.frozen? ⟨r, i, none⟩ = false := by obtain ⟨_, cs, fi, so, th, hb, _⟩ := h; exact hb.free i
theorem RefAt.cFirm {w : World} {r : Nat} {M : DM} (h : RefAt w r M) {n : Nat} (hn : n < 16) : w.cell? ⟨r, n, none⟩ = some (.string ((M.files n).getD noFile).1) := by
  obtain ⟨_, cs, fi, so, th, hb, hc, hs⟩ := h
  rw [hb.cell, hc.firm n hn, hs.firm n hn]
theorem RefAt.cSoft {w : World} {r : Nat} {M : DM} (h : RefAt w r M) {n : Nat} (hn : n < 16) : w.cell? ⟨r, 16 + n, none⟩ = some (.string ((M.files n).getD noFile).2) := by
  obtain ⟨_, cs, fi, so, th, hb, hc, hs⟩ := h
  rw [hb.cell, hc.soft n hn, hs.soft n hn]
theorem RefAt.cThere {w : World} {r : Nat} {M : DM} (h : RefAt w r M) {n : Nat} (hn : n < 16) : w.cell? ⟨r, 32 + n, none⟩ = some (.bool (M.files n).isSome) := by
  obtain ⟨_, cs, fi, so, th, hb, hc, hs⟩ := h
  rw [hb.cell, hc.there n hn, hs.there n hn]
theorem RefAt.cRoom {w : World} {r : Nat} {M : DM} (h : RefAt w r M) : w.cell? ⟨r, 48, none⟩ = some (.int .i64 M.room) := by
  obtain ⟨_, cs, fi, so, th, hb, hc, hs⟩ := h
  rw [hb.cell, hc.room]
theorem RefAt.cFuel {w : World} {r : Nat} {M : DM} (h : RefAt w r M) : w.cell? ⟨r, 49, none⟩ = some (.int .i64 M.fuel) := by
  obtain ⟨_, cs, fi, so, th, hb, hc, hs⟩ := h
  rw [hb.cell, hc.fuel]
theorem RefAt.cOff {w : World} {r : Nat} {M : DM} (h : RefAt w r M) : w.cell? ⟨r, 50, none⟩ = some (.bool M.off) := by
  obtain ⟨_, cs, fi, so, th, hb, hc, hs⟩ := h
  rw [hb.cell, hc.off]

theorem rno_yes (w : World) (n : Int) (h : n < 0 ∨ 15 < n) :
    Calls Try.prog 33 #[.int .i64 n] w fun e w' => e = .returned (.bool true) ∧ w = w' := by
  rcases h with h | h
  · go_enter Try.func33, Try.ntmps33
    go_wp2
    go_ret
    exact ⟨by simp [h], rfl⟩
  · have h' : ¬ n < 0 := by omega
    go_enter Try.func33, Try.ntmps33
    go_wp2
    go_ret
    exact ⟨by simp [h], rfl⟩
theorem rno_no (w : World) (n : Int) (h0 : 0 ≤ n) (h1 : n < 16) :
    Calls Try.prog 33 #[.int .i64 n] w fun e w' => e = .returned (.bool false) ∧ w = w' := by
  have h' : ¬ n < 0 := by omega
  have h2 : ¬ 15 < n := by omega
  go_enter Try.func33, Try.ntmps33
  go_wp2
  go_ret
  exact ⟨by simp [h', h2], rfl⟩

theorem rnew_ok (w : World) (room : Int) (h0 : 0 ≤ room) (h1 : room ≤ 1048576) :
    Calls Try.prog 11 #[.int .i64 room] w fun e w' => e = .returned (.tuple #[.pointer (some ⟨w.heap.size, 0, none⟩), .int .i64 0]) ∧ RefAt w' w.heap.size (DM.new room) ∧ Only NoBlock w w' := by
  go_enter Try.func11, Try.ntmps11
  go_wp2
  go_ret2
  refine ⟨rfl, ⟨?_, _, fun _ => ByteArray.empty, fun _ => ByteArray.empty, fun _ => false, Blk.made _ _ _, ?_, ⟨fun _ _ => rfl, fun _ _ => rfl, fun _ _ => rfl⟩⟩, (Only.refl _ _).alloc _⟩
  · refine ⟨h0, h1, ?_, by simp [DM.new], by simp [DM.new], fun x f h => by cases h⟩
    unfold DM.new DM.used
    rw [tot_none]; exact h0
  · refine ⟨rfl, fun i hi => ?_, fun i hi => ?_, fun i hi => ?_, rfl, rfl, rfl⟩
    · match i, hi with
      | 0, _ => rfl | 1, _ => rfl | 2, _ => rfl | 3, _ => rfl | 4, _ => rfl | 5, _ => rfl | 6, _ => rfl | 7, _ => rfl | 8, _ => rfl | 9, _ => rfl | 10, _ => rfl | 11, _ => rfl | 12, _ => rfl | 13, _ => rfl | 14, _ => rfl | 15, _ => rfl | n + 16, h => exact absurd h (by omega)
    · match i, hi with
      | 0, _ => rfl | 1, _ => rfl | 2, _ => rfl | 3, _ => rfl | 4, _ => rfl | 5, _ => rfl | 6, _ => rfl | 7, _ => rfl | 8, _ => rfl | 9, _ => rfl | 10, _ => rfl | 11, _ => rfl | 12, _ => rfl | 13, _ => rfl | 14, _ => rfl | 15, _ => rfl | n + 16, h => exact absurd h (by omega)
    · match i, hi with
      | 0, _ => rfl | 1, _ => rfl | 2, _ => rfl | 3, _ => rfl | 4, _ => rfl | 5, _ => rfl | 6, _ => rfl | 7, _ => rfl | 8, _ => rfl | 9, _ => rfl | 10, _ => rfl | 11, _ => rfl | 12, _ => rfl | 13, _ => rfl | 14, _ => rfl | 15, _ => rfl | n + 16, h => exact absurd h (by omega)
theorem rnew_no (w : World) (room : Int) (h : room < 0 ∨ 1048576 < room) :
    Calls Try.prog 11 #[.int .i64 room] w fun e w' => e = .returned (.tuple #[.pointer none, .int .i64 1]) ∧ w = w' := by
  rcases h with h | h
  · go_enter Try.func11, Try.ntmps11
    go_wp2
    go_ret2
    exact ⟨rfl, rfl⟩
  · have h' : ¬ room < 0 := by omega
    go_enter Try.func11, Try.ntmps11
    go_wp2
    go_ret2
    exact ⟨rfl, rfl⟩

theorem rhas_no (w : World) (r : Nat) (n : Int) (h : n < 0 ∨ 15 < n) :
    Calls Try.prog 89 #[.pointer (some ⟨r, 0, none⟩), .int .i64 n] w fun e w' => e = .returned (.bool false) ∧ w = w' := by
  go_enter Try.func89, Try.ntmps89
  go_wp2_with (first | (go_at_call 33; refine (rno_yes _ _ h).mono ?_; rintro e w1 ⟨rfl, rfl⟩))
  go_ret
  exact ⟨rfl, rfl⟩
theorem rhas_at (w : World) (r : Nat) (M : DM) (n : Nat) (hn : n < 16) (h : RefAt w r M) (b : Bool) (hb : (M.files n).isSome = b) :
    Calls Try.prog 89 #[.pointer (some ⟨r, 0, none⟩), .int .i64 n] w fun e w' => e = .returned (.bool b) ∧ w = w' := by
  have c := h.cThere hn
  rw [hb] at c
  go_enter Try.func89, Try.ntmps89
  go_wp2_with (first | (go_at_call 33; refine (rno_no _ _ (by omega) (by omega)).mono ?_; rintro e w1 ⟨rfl, rfl⟩))
  go_ret
  exact ⟨rfl, rfl⟩

theorem rstep_at (w : World) (r : Nat) (M : DM) (h : RefAt w r M) (hoff : M.off = false) :
    Calls Try.prog 35 #[.pointer (some ⟨r, 0, none⟩)] w fun e w' => e = .returned (.bool M.steps) ∧ RefAt w' r M.stepped ∧ Only (fun k => k = r) w w' := by
  have c1 := h.cFuel
  have c2 := h.cOff
  have f1 := h.free 49
  have f2 := h.free 50
  have hf0 := h.ok.fuel0
  have hf1 := h.ok.fuel1
  obtain ⟨hk, cs, fi, so, th, hb, hc, hs⟩ := h
  have hok := hk
  go_enter Try.func35, Try.ntmps35
  go_wp2
  all_goals go_ret
  · have hz : M.fuel = 0 := by have : (M.fuel == 0) = true := by assumption
                               simpa using this
    refine ⟨by simp [DM.steps, hoff, hz], ?_, Only.one (S := fun k => k = r) rfl _⟩
    have e : M.stepped = { M with off := true } := by simp [DM.stepped, hoff, hz]
    rw [e]
    exact ⟨hok.with rfl rfl hok.fuel0 hok.fuel1, _, fi, so, th, hb.setCell 50 _, hc.setOff true, hs⟩
  · have hz : 0 < M.fuel := by assumption
    have hz' : M.fuel ≠ 0 := by omega
    refine ⟨by simp [DM.steps, hoff, hz'], ?_, Only.one (S := fun k => k = r) rfl _⟩
    have e : M.stepped = { M with fuel := M.fuel - 1 } := by simp [DM.stepped, hoff, hz, hz']
    rw [e]
    exact ⟨hok.with rfl rfl (by show -1 ≤ M.fuel - 1; omega) (by show M.fuel - 1 ≤ _; omega), _, fi, so, th, hb.setCell 49 _, hc.setFuel _, hs⟩
  · have hz : M.fuel ≤ 0 := by assumption
    have hz' : M.fuel ≠ 0 := by have : (M.fuel == 0) = false := by assumption
                                simpa using this
    have hz2 : ¬ 0 < M.fuel := by omega
    have e : M.stepped = M := by simp [DM.stepped, hoff, hz', hz2]
    rw [e]
    exact ⟨by simp [DM.steps, hoff, hz'], ⟨hok, cs, fi, so, th, hb, hc, hs⟩, Only.refl _ _⟩

theorem tot_step (F : Fs) (k : Nat) : tot F (k + 1) = tot F k + (((F k).getD noFile).1.size + ((F k).getD noFile).2.size) := by
  show tot F k + fsz (F k) = _
  rw [getD_fsz (o := F k) (fa := ((F k).getD noFile).1) (fb := ((F k).getD noFile).2) rfl]
theorem tot_mono {F : Fs} : ∀ {m n : Nat}, m ≤ n → tot F m ≤ tot F n
  | m, 0, h => by have : m = 0 := by omega
                  subst this; exact Nat.le_refl _
  | m, n + 1, h => by
    by_cases e : m = n + 1
    · subst e; exact Nat.le_refl _
    · have := tot_mono (F := F) (m := m) (n := n) (by omega)
      show tot F m ≤ tot F n + fsz (F n)
      omega

theorem rused_at (w : World) (r : Nat) (M : DM) (h : RefAt w r M) :
    Calls Try.prog 34 #[.pointer (some ⟨r, 0, none⟩)] w fun e w' => e = .returned (.int .i64 M.used) ∧ ∃ q, w' = w.drewN q := by
  go_enter Try.func34, Try.ntmps34
  go_wp2
  go_loopw [3, 4] (fun s i wr => ∃ (k t q : Nat), k ≤ 16 ∧ i = .int .i64 k ∧ s = .int .i64 t ∧ t = tot M.files k ∧ wr = w.drewN q) (fun _ i _ => 16 - (intOf i).toNat)
  case atStart => exact ⟨0, 0, 0, by omega, rfl, rfl, rfl, rfl⟩
  case round =>
    obtain ⟨k, t, q, hk, rfl, rfl, ht, rfl⟩ := hrel
    by_cases hlt : k < 16
    · have c1 := h.cFirm hlt
      have c2 := h.cSoft hlt
      have hm := tot_mono (F := M.files) (m := k + 1) (n := 16) (by omega)
      have hs := tot_step M.files k
      have hu := h.ok.used
      have hr := h.ok.room1
      unfold DM.used at hu
      obtain ⟨fa, ha⟩ : ∃ fa, ((M.files k).getD noFile).1 = fa := ⟨_, rfl⟩
      obtain ⟨fb, hb⟩ : ∃ fb, ((M.files k).getD noFile).2 = fb := ⟨_, rfl⟩
      rw [ha] at c1 hs
      rw [hb] at c2 hs
      have hi : (k : Int) < 16 := by omega
      have hi0 : (0 : Int) ≤ (k : Int) := by omega
      have hb1 : t + (fa.size + fb.size) ≤ 1048576 := by omega
      have HS := Lib.hid (show t + (fa.size + fb.size) = tot M.files (k + 1) by omega)
      clear ht ha hb hs hm hu hr
      have hw1 : IntKind.i64.wrap ((fa.size : Int) + (fb.size : Int)) = (fa.size : Int) + (fb.size : Int) := IntWalk.i64_in _ (by omega)
      have hw2 : IntKind.i64.wrap ((t : Int) + ((fa.size : Int) + (fb.size : Int))) = (t : Int) + ((fa.size : Int) + (fb.size : Int)) := IntWalk.i64_in _ (by omega)
      go_wp2_with fail
      go_quiet (fail)
      clear hw1 hw2
      go_wp2_with fail
      go_roundw
      case rel => exact ⟨k + 1, t + (fa.size + fb.size), _, by omega, by go_num, by go_num, HS.out, rfl⟩
      case measure => simp [intOf]; omega
    · have e : k = 16 := by omega
      subst e
      have HT := Lib.hid ht
      clear ht
      go_wp2
      go_ret
      exact ⟨by rw [HT.out]; rfl, q, rfl⟩

theorem Says.put {F : Fs} {fi so : Nat → ByteArray} {th : Nat → Bool} (hs : Says F fi so th) (n : Nat) (fa fb : ByteArray) : Says (F.put n (fa, fb)) (upd fi n fa) (upd so n fb) (upd th n true) := by
  refine ⟨fun i hi => ?_, fun i hi => ?_, fun i hi => ?_⟩ <;> by_cases e : i = n
  · subst e; simp [upd, Fs.put]
  · simp only [upd, Fs.put, if_neg e, if_neg (show ¬ ((i : Int) = (n : Int)) by omega)]; exact hs.firm i hi
  · subst e; simp [upd, Fs.put]
  · simp only [upd, Fs.put, if_neg e, if_neg (show ¬ ((i : Int) = (n : Int)) by omega)]; exact hs.soft i hi
  · subst e; simp [upd, Fs.put]
  · simp only [upd, Fs.put, if_neg e, if_neg (show ¬ ((i : Int) = (n : Int)) by omega)]; exact hs.there i hi
theorem Says.del {F : Fs} {fi so : Nat → ByteArray} {th : Nat → Bool} (hs : Says F fi so th) (n : Nat) : Says (F.del n) (upd fi n ByteArray.empty) (upd so n ByteArray.empty) (upd th n false) := by
  refine ⟨fun i hi => ?_, fun i hi => ?_, fun i hi => ?_⟩ <;> by_cases e : i = n
  · subst e; simp [upd, Fs.del, noFile]
  · simp only [upd, Fs.del, if_neg e, if_neg (show ¬ ((i : Int) = (n : Int)) by omega)]; exact hs.firm i hi
  · subst e; simp [upd, Fs.del, noFile]
  · simp only [upd, Fs.del, if_neg e, if_neg (show ¬ ((i : Int) = (n : Int)) by omega)]; exact hs.soft i hi
  · subst e; simp [upd, Fs.del]
  · simp only [upd, Fs.del, if_neg e, if_neg (show ¬ ((i : Int) = (n : Int)) by omega)]; exact hs.there i hi
theorem upd_same {α : Type} {f : Nat → α} {n : Nat} {v : α} (h : f n = v) : upd f n v = f := by
  funext i
  unfold upd
  by_cases e : i = n
  · rw [if_pos e, e, h]
  · rw [if_neg e]

def RAppEnd (M : DM) (n : Int) (s : ByteArray) (r : Nat) (w : World) (e : Ending) (w' : World) : Prop :=
  e = .returned (.int .i64 (M.appendE n s)) ∧ RefAt w' r (M.append n s) ∧ Only (fun k => k = r) w w'

end Go.Proofs.Ytekmjhenhgmpgaa

/- The document's disk: Sync, Replace, Remove, Read, Files, Crash, and the comparison of two lists of numbers. -/
namespace Go.Proofs.Ytekmjhenhgmpgaa
open Go.RowKit Go.Maps
set_option maxRecDepth 100000

theorem rhas_gone (w : World) (r : Nat) (M : DM) (n : Int) (h : RefAt w r M) (hs : (M.files n).isSome = false) :
    Calls Try.prog 89 #[.pointer (some ⟨r, 0, none⟩), .int .i64 n] w fun e w' => e = .returned (.bool false) ∧ w = w' := by
  by_cases hn : n < 0 ∨ 15 < n
  · exact rhas_no w r n hn
  · obtain ⟨m, rfl⟩ := Int.eq_ofNat_of_zero_le (show 0 ≤ n by omega)
    exact rhas_at w r M m (by omega) h false hs

def RSynEnd (M : DM) (n : Int) (r : Nat) (w : World) (e : Ending) (w' : World) : Prop :=
  e = .returned (.int .i64 (M.syncE n)) ∧ RefAt w' r (M.sync n) ∧ Only (fun k => k = r) w w'

theorem rsync_at (w : World) (r : Nat) (M : DM) (n : Int) (h : RefAt w r M) :
    Calls Try.prog 70 #[.pointer (some ⟨r, 0, none⟩), .int .i64 n] w (RSynEnd M n r w) := by
  have c := h.cOff
  cases hoff : M.off with
  | true =>
    rw [hoff] at c
    go_enter Try.func70, Try.ntmps70
    go_wp2
    go_ret
    exact ⟨by simp [DM.syncE, hoff], by simpa [DM.sync, hoff] using h, Only.refl _ _⟩
  | false =>
    rw [hoff] at c
    cases hth : (M.files n).isSome with
    | false =>
      go_enter Try.func70, Try.ntmps70
      go_wp2_with (first | (go_at_call 89; refine (rhas_gone _ r M n h hth).mono ?_; rintro e w1 ⟨rfl, rfl⟩))
      go_ret
      exact ⟨by simp [DM.syncE, hoff, hth], by simpa [DM.sync, hoff, hth] using h, Only.refl _ _⟩
    | true =>
      obtain ⟨hn0, hn1⟩ := there_range h.ok hth
      obtain ⟨m, rfl⟩ := Int.eq_ofNat_of_zero_le hn0
      have hm : m < 16 := by omega
      obtain ⟨fa, fb, hf⟩ : ∃ fa fb, (M.files m).getD noFile = (fa, fb) := ⟨_, _, rfl⟩
      have hsm := h.ok.small hn0 hn1 hf
      have hus := h.ok.used
      have hr1 := h.ok.room1
      cases hst : M.steps with
      | false =>
        go_enter Try.func70, Try.ntmps70
        go_wp2_with (first
          | (go_at_call 89; refine (rhas_at _ r M m hm h true hth).mono ?_; rintro e w1 ⟨rfl, rfl⟩)
          | (go_at_call 35; refine (rstep_at _ r M h hoff).mono ?_; rintro e w2 ⟨rfl, hd2, ho2⟩))
        go_ret
        exact ⟨by simp [DM.syncE, hoff, hth, hst], by simpa [DM.sync, hoff, hth, hst] using hd2, ho2⟩
      | true =>
        go_enter Try.func70, Try.ntmps70
        go_wp2_with (first
          | (go_at_call 89; refine (rhas_at _ r M m hm h true hth).mono ?_; rintro e w1 ⟨rfl, rfl⟩)
          | (go_at_call 35; refine (rstep_at _ r M h hoff).mono ?_; rintro e w2 ⟨rfl, hd2, ho2⟩; have k0 := hd2.cFirm hm; rw [stepped_files, hf] at k0; have k1 := hd2.cSoft hm; rw [stepped_files, hf] at k1; have f1 := hd2.free m; have f2 := hd2.free (16 + m)))
        have hcat : (9223372036854775807 < fa.size + fb.size) = False := by simp; omega
        refine wp_region_tail 16 (by kernel_rfl) (by kernel_rfl) ?_
        simp only [List.take_succ_cons, List.take_zero, List.drop_succ_cons, List.drop_zero]
        repeat still_step
        refine wpStill_nil ?_
        clear hcat
        go_wp2
        go_ret
        have hok : DM.Ok { M.stepped with files := M.files.put m (fa ++ fb, ByteArray.empty) } := by
          have := hd2.ok.put (n := (m : Int)) (f := (fa ++ fb, ByteArray.empty)) hn0 hn1 (by
            rw [stepped_files, stepped_room, getD_fsz hf, show (M.stepped).used = M.used from by unfold DM.used; rw [stepped_files]]
            simp only [ByteArray.size_append, ByteArray.size_empty]
            omega)
          rw [stepped_files] at this
          exact this
        obtain ⟨_, cs, fi, so, th, hb, hc, hsay⟩ := hd2
        rw [stepped_files] at hsay
        have hth2 : th m = true := by rw [hsay.there m hm, hth]
        have hsay2 := hsay.put m (fa ++ fb) ByteArray.empty
        rw [upd_same hth2] at hsay2
        refine ⟨by simp [DM.syncE, hoff, hth, hst], ?_, ?_⟩
        · have e : M.sync m = { M.stepped with files := M.files.put m (fa ++ fb, ByteArray.empty) } := by simp [DM.sync, hoff, hth, hst, hf]
          rw [e]
          exact ⟨hok, _, _, _, th, ((hb.setCell m _).setCell (16 + m) _).drew, (hc.setFirm hm _).setSoft hm _, hsay2⟩
        · exact ((ho2.setCell (fun _ => rfl) _).setCell (fun _ => rfl) _).drew

def RRemEnd (M : DM) (n : Int) (r : Nat) (w : World) (e : Ending) (w' : World) : Prop :=
  e = .returned (.int .i64 (M.removeE n)) ∧ RefAt w' r (M.remove n) ∧ Only (fun k => k = r) w w'

theorem rread_at (w : World) (r : Nat) (M : DM) (n : Int) (h : RefAt w r M) :
    Calls Try.prog 68 #[.pointer (some ⟨r, 0, none⟩), .int .i64 n] w fun e w' => e = .returned (.tuple #[.string (M.read n), .int .i64 (M.readE n)]) ∧ Only NoBlock w w' := by
  have c := h.cOff
  cases hoff : M.off with
  | true =>
    rw [hoff] at c
    go_enter Try.func68, Try.ntmps68
    go_wp2
    go_ret2
    exact ⟨by simp [DM.read, DM.readE, hoff]; rfl, Only.refl _ _⟩
  | false =>
    rw [hoff] at c
    cases hth : (M.files n).isSome with
    | false =>
      go_enter Try.func68, Try.ntmps68
      go_wp2_with (first | (go_at_call 89; refine (rhas_gone _ r M n h hth).mono ?_; rintro e w1 ⟨rfl, rfl⟩))
      go_ret2
      exact ⟨by simp [DM.read, DM.readE, hoff, hth]; rfl, Only.refl _ _⟩
    | true =>
      obtain ⟨hn0, hn1⟩ := there_range h.ok hth
      obtain ⟨m, rfl⟩ := Int.eq_ofNat_of_zero_le hn0
      have hm : m < 16 := by omega
      obtain ⟨fa, fb, hf⟩ : ∃ fa fb, (M.files m).getD noFile = (fa, fb) := ⟨_, _, rfl⟩
      have hsm := h.ok.small hn0 hn1 hf
      have hus := h.ok.used
      have hr1 := h.ok.room1
      have k0 := h.cFirm hm
      have k1 := h.cSoft hm
      rw [hf] at k0 k1
      simp only at k0 k1
      have hcat : (9223372036854775807 < fa.size + fb.size) = False := by simp; omega
      go_enter Try.func68, Try.ntmps68
      go_wp2_with (first | (go_at_call 89; refine (rhas_at _ r M m hm h true hth).mono ?_; rintro e w1 ⟨rfl, rfl⟩))
      go_quiet (fail)
      clear hcat
      go_wp2
      go_ret2
      exact ⟨by simp [DM.read, DM.readE, hoff, hth, hf], (Only.refl _ _).drewN _⟩

def RRepEnd (M : DM) (n : Int) (s : ByteArray) (r : Nat) (w : World) (e : Ending) (w' : World) : Prop :=
  e = .returned (.int .i64 (M.replaceE n s)) ∧ RefAt w' r (M.replace n s) ∧ Only (fun k => k = r) w w'

theorem rreplace_at (w : World) (r : Nat) (M : DM) (n : Int) (s : ByteArray) (h : RefAt w r M) (hs : s.size ≤ 4611686018427387904) :
    Calls Try.prog 13 #[.pointer (some ⟨r, 0, none⟩), .int .i64 n, .string s] w (RRepEnd M n s r w) := by
  by_cases hn : n < 0 ∨ 16 ≤ n
  · have HN := Lib.hid hn
    go_enter Try.func13, Try.ntmps13
    go_wp2_with (first | (go_at_call 33; refine (rno_yes _ _ (by omega)).mono ?_; rintro e w1 ⟨rfl, rfl⟩))
    go_ret
    exact ⟨by simp [DM.replaceE, HN.out], by simpa [DM.replace, HN.out] using h, Only.refl _ _⟩
  · have hn0 : 0 ≤ n := by omega
    have hn1 : n < 16 := by omega
    have c := h.cOff
    have HN := Lib.hid hn
    clear hn
    cases hoff : M.off with
    | true =>
      rw [hoff] at c
      go_enter Try.func13, Try.ntmps13
      go_wp2_with (first | (go_at_call 33; refine (rno_no _ _ hn0 hn1).mono ?_; rintro e w1 ⟨rfl, rfl⟩))
      go_ret
      exact ⟨by simp [DM.replaceE, HN.out, hoff], by simpa [DM.replace, HN.out, hoff] using h, Only.refl _ _⟩
    | false =>
      rw [hoff] at c
      obtain ⟨m, rfl⟩ := Int.eq_ofNat_of_zero_le hn0
      have hm : m < 16 := by omega
      obtain ⟨fa, fb, hf⟩ : ∃ fa fb, (M.files m).getD noFile = (fa, fb) := ⟨_, _, rfl⟩
      have hfz := getD_fsz hf
      have hsm := h.ok.small hn0 hn1 hf
      have k0 := h.cFirm hm
      have k1 := h.cSoft hm
      rw [hf] at k0 k1
      simp only at k0 k1
      have cr := h.cRoom
      have r0 := h.ok.room0
      have r1 := h.ok.room1
      have ru := h.ok.used
      have hw1 : IntKind.i64.wrap ((M.used : Int) - (fa.size : Int)) = (M.used : Int) - (fa.size : Int) := IntWalk.i64_in _ (by omega)
      have hw2 : IntKind.i64.wrap ((M.used : Int) - (fa.size : Int) - (fb.size : Int)) = (M.used : Int) - (fa.size : Int) - (fb.size : Int) := IntWalk.i64_in _ (by omega)
      have hw3 : IntKind.i64.wrap ((M.used : Int) - (fa.size : Int) - (fb.size : Int) + (s.size : Int)) = (M.used : Int) - (fa.size : Int) - (fb.size : Int) + (s.size : Int) := IntWalk.i64_in _ (by omega)
      have HZ := Lib.hid hfz
      by_cases hfull : M.room + fsz (M.files m) < M.used + s.size
      · have hfull2 : M.room < (M.used : Int) - (fa.size : Int) - (fb.size : Int) + (s.size : Int) := by omega
        have HF := Lib.hid hfull
        clear hfull hfz
        go_enter Try.func13, Try.ntmps13
        go_wp2_with (first | (go_at_call 33; refine (rno_no _ _ hn0 hn1).mono ?_; rintro e w1 ⟨rfl, rfl⟩))
        go_quiet ((go_at_call 34; exact Calls.quiet_of (rused_at _ r M (h.drewN _))))
        clear hw1 hw2 hw3
        go_wp2
        go_ret
        exact ⟨by simp [DM.replaceE, HN.out, hoff, HF.out], by simpa [DM.replace, HN.out, hoff, HF.out] using h.drewN _, (Only.refl _ _).drewN _⟩
      · have hfit : (M.used : Int) - (fa.size : Int) - (fb.size : Int) + (s.size : Int) ≤ M.room := by omega
        clear hfull hfz
        cases hst : M.steps with
        | false =>
          go_enter Try.func13, Try.ntmps13
          go_wp2_with (first | (go_at_call 33; refine (rno_no _ _ hn0 hn1).mono ?_; rintro e w1 ⟨rfl, rfl⟩))
          go_quiet ((go_at_call 34; exact Calls.quiet_of (rused_at _ r M (h.drewN _))))
          clear hw1 hw2 hw3
          go_wp2_with (first | (go_at_call 35; refine (rstep_at _ r M (h.drewN _) hoff).mono ?_; rintro e w2 ⟨rfl, hd2, ho2⟩))
          go_ret
          have hnf : ¬ (M.room + fsz (M.files m) < M.used + s.size) := by have := HZ.out; omega
          exact ⟨by simp [DM.replaceE, HN.out, hoff, hnf, hst], by simpa [DM.replace, HN.out, hoff, hnf, hst] using hd2, ((Only.refl _ _).drewN _).trans ho2⟩
        | true =>
          go_enter Try.func13, Try.ntmps13
          go_wp2_with (first | (go_at_call 33; refine (rno_no _ _ hn0 hn1).mono ?_; rintro e w1 ⟨rfl, rfl⟩))
          go_quiet ((go_at_call 34; exact Calls.quiet_of (rused_at _ r M (h.drewN _))))
          clear hw1 hw2 hw3
          go_wp2_with (first
            | (go_at_call 35; refine (rstep_at _ r M (h.drewN _) hoff).mono ?_; rintro e w2 ⟨rfl, hd2, ho2⟩; have k0 := hd2.cFirm hm; have k1 := hd2.cSoft hm; have k2 := hd2.cThere hm; have f0 := hd2.free m; have f1 := hd2.free (16 + m); have f2 := hd2.free (32 + m)))
          go_ret
          have hnf : ¬ (M.room + fsz (M.files m) < M.used + s.size) := by have := HZ.out; omega
          have hok : DM.Ok { M.stepped with files := M.files.put m (s, ByteArray.empty) } := by
            have := hd2.ok.put (n := (m : Int)) (f := (s, ByteArray.empty)) hn0 hn1 (by
              rw [stepped_files, stepped_room, show (M.stepped).used = M.used from by unfold DM.used; rw [stepped_files]]
              simp only [ByteArray.size_empty]
              omega)
            rw [stepped_files] at this
            exact this
          obtain ⟨_, cs, fi, so, th, hb, hc, hsay⟩ := hd2
          rw [stepped_files] at hsay
          refine ⟨by simp [DM.replaceE, HN.out, hoff, hnf, hst], ?_, ?_⟩
          · have e : M.replace m s = { M.stepped with files := M.files.put m (s, ByteArray.empty) } := by simp [DM.replace, HN.out, hoff, hnf, hst]
            rw [e]
            exact ⟨hok, _, _, _, _, ((hb.setCell m _).setCell (16 + m) _).setCell (32 + m) _, ((hc.setFirm hm _).setSoft hm _).setThere hm _, hsay.put m s ByteArray.empty⟩
          · exact ((((((Only.refl (fun k => k = r) w).drewN nq).trans ho2).setCell (fun _ => rfl) _).setCell (fun _ => rfl) _).setCell (fun _ => rfl) _)

end Go.Proofs.Ytekmjhenhgmpgaa

/- The document's disk: Files, Crash; the comparison of two lists of numbers. -/
namespace Go.Proofs.Ytekmjhenhgmpgaa
open Go.RowKit Go.Maps
set_option maxRecDepth 100000

theorem list_range (F : Fs) : ∀ k, ∀ x ∈ F.list k, 0 ≤ x ∧ x < (k : Int)
  | 0, x, h => by simp [Fs.list] at h
  | k + 1, x, h => by
    unfold Fs.list at h
    rcases List.mem_append.1 h with h | h
    · have := list_range F k x h; omega
    · split at h
      · simp at h; omega
      · simp at h
theorem Ints.files {w : World} {base : Nat} {v : Value} {F : Fs} (h : Ints w base v (F.list 16)) : ∃ ao cap, v = .slice ao (F.list 16).length cap ∧ IntsIn w ao (F.list 16) :=
  h.read (by have := list_len F 16; unfold maxLen; omega) (fun x hx => by have := list_range F 16 x hx; exact wf_small (by omega) (by omega))
theorem IntsIn.keeps {S : Nat → Prop} {w w' : World} {ao : Option Addr} {l : List Int} (h : IntsIn w ao l) (ho : Only S w w') (hs : ∀ a, ao = some a → ¬ S a.block) : IntsIn w' ao l :=
  ⟨h.wf, h.len, fun i hi => by
    obtain ⟨b, off, e, hc⟩ := h.cell i hi
    exact ⟨b, off, e, keeps_cell (a := ⟨b, off + i, none⟩) ho (hs ⟨b, off, none⟩ e) hc⟩⟩

theorem Says.crash {F : Fs} {l : List Int} {fi so : Nat → ByteArray} {th : Nat → Bool} {k j : Nat} {fa fb : ByteArray} {b : Bool} (hs : Says (F.crashed l (fun x => decide ((k : Int) ≤ x))) fi so th) (hf : (F k).getD noFile = (fa, fb))
    (hj : j = (max 0 (min (keepOf l (k : Int)) (fb.size : Int))).toNat) (hb : b = ((F k).isSome && (!(fa ++ fb.extract 0 j).toList.isEmpty || fb.toList.isEmpty))) :
    Says (F.crashed l (fun x => decide (((k + 1 : Nat) : Int) ≤ x))) (upd fi k (fa ++ fb.extract 0 j)) so (upd th k b) := by
  have hle : j ≤ fb.size := by omega
  have old : ∀ i : Nat, i ≠ k → F.crashed l (fun x => decide (((k + 1 : Nat) : Int) ≤ x)) i = F.crashed l (fun x => decide ((k : Int) ≤ x)) i := by
    intro i hi
    unfold Fs.crashed
    by_cases h : (k : Int) ≤ (i : Int)
    · rw [if_pos (by simpa using (by omega : ((k + 1 : Nat) : Int) ≤ (i : Int))), if_pos (by simpa using h)]
    · rw [if_neg (by simpa using (by omega : (i : Int) < ((k + 1 : Nat) : Int))), if_neg (by simpa using h)]
  have hgone : F.crashed l (fun x => decide ((k : Int) ≤ x)) k = none := by
    unfold Fs.crashed
    rw [if_pos (by simp)]
  have hnew : F.crashed l (fun x => decide (((k + 1 : Nat) : Int) ≤ x)) k = match F k with | none => none | some f => leftFile f (keepOf l k) := by
    unfold Fs.crashed
    rw [if_neg (by simp; omega)]
    cases F k <;> rfl
  have hnew2 : (F.crashed l (fun x => decide (((k + 1 : Nat) : Int) ≤ x)) k).getD noFile = (fa ++ fb.extract 0 j, ByteArray.empty) ∧ (F.crashed l (fun x => decide (((k + 1 : Nat) : Int) ≤ x)) k).isSome = b := by
    rw [hnew]
    have hes : (fb.extract 0 j).size = j := by rw [ByteArray.size_extract]; omega
    cases hF : F k with
    | none =>
      rw [hF] at hf hb
      cases hf
      have hj0 : j = 0 := by have : (ByteArray.empty).size = 0 := rfl; omega
      subst hj0
      refine ⟨?_, by rw [hb]; rfl⟩
      show noFile = _
      unfold noFile
      rfl
    | some f =>
      rw [hF] at hf hb
      have hff : f = (fa, fb) := hf
      subst hff
      simp only
      unfold leftFile
      simp only
      rw [← hj]
      by_cases hg : fa.size = 0 ∧ j = 0 ∧ fb.size ≠ 0
      · obtain ⟨h1, h2, h3⟩ := hg
        rw [if_pos ⟨h1, h2, h3⟩]
        have he : (fa ++ fb.extract 0 j).size = 0 := by rw [ByteArray.size_append, hes]; omega
        refine ⟨?_, ?_⟩
        · rw [ByteArray.size_eq_zero_iff.1 he]; rfl
        · rw [hb, empty_of_size he, full_of_size h3]; rfl
      · rw [if_neg hg]
        refine ⟨rfl, ?_⟩
        rw [hb]
        by_cases h3 : fb.size = 0
        · rw [empty_of_size h3]; simp
        · have he : (fa ++ fb.extract 0 j).size ≠ 0 := by rw [ByteArray.size_append, hes]; omega
          rw [full_of_size he]; simp
  refine ⟨fun i hi => ?_, fun i hi => ?_, fun i hi => ?_⟩ <;> by_cases e : i = k
  · subst e; rw [hnew2.1]; simp [upd]
  · rw [old i e]; simp only [upd, if_neg e]; exact hs.firm i hi
  · subst e; rw [hnew2.1]
    have := hs.soft i hi
    rw [hgone] at this
    exact this
  · rw [old i e]; exact hs.soft i hi
  · subst e; rw [hnew2.2]; simp [upd]
  · rw [old i e]; simp only [upd, if_neg e]; exact hs.there i hi

end Go.Proofs.Ytekmjhenhgmpgaa

/- The document's disk: Crash. -/
namespace Go.Proofs.Ytekmjhenhgmpgaa
open Go.RowKit Go.Maps
set_option maxRecDepth 100000

end Go.Proofs.Ytekmjhenhgmpgaa

/- The document's log: opening, appending, laying anew are what the plain data say. -/
namespace Go.Proofs.Ytekmjhenhgmpgaa
open Go.RowKit
set_option maxRecDepth 100000
--

/-- block g is the document's log of file n of the disk at r -/
def RLogAt (w : World) (g r : Nat) (n : Int) : Prop := Blk w g #[.pointer (some ⟨r, 0, none⟩), .int .i64 n] 135

namespace R5
theorem rrep_as {w : World} {r : Nat} {M : DM} {n : Int} {s : ByteArray} (h : RefAt w r M) (hs : s.size ≤ 4611686018427387904) {k : Int} {M' : DM} (hk : M.replaceE n s = k) (hM : M.replace n s = M') :
    Calls Try.prog 13 #[.pointer (some ⟨r, 0, none⟩), .int .i64 n, .string s] w fun e w' => e = .returned (.int .i64 k) ∧ RefAt w' r M' ∧ Only (fun k => k = r) w w' := by
  subst hk; subst hM; exact rreplace_at w r M n s h hs
theorem rsyn_as {w : World} {r : Nat} {M : DM} {n : Int} (h : RefAt w r M) {k : Int} {M' : DM} (hk : M.syncE n = k) (hM : M.sync n = M') :
    Calls Try.prog 70 #[.pointer (some ⟨r, 0, none⟩), .int .i64 n] w fun e w' => e = .returned (.int .i64 k) ∧ RefAt w' r M' ∧ Only (fun k => k = r) w w' := by
  subst hk; subst hM; exact rsync_at w r M n h
theorem rread_as {w : World} {r : Nat} {M : DM} {n : Int} (h : RefAt w r M) {k : Int} {s : ByteArray} (hk : M.readE n = k) (hM : M.read n = s) :
    Calls Try.prog 68 #[.pointer (some ⟨r, 0, none⟩), .int .i64 n] w fun e w' => e = .returned (.tuple #[.string s, .int .i64 k]) ∧ Only NoBlock w w' := by
  subst hk; subst hM; exact rread_at w r M n h
end R5

/-- what opening leaves -/
def ROpenEnd (M : DM) (n : Int) (r : Nat) (w : World) (e : Ending) (w' : World) : Prop :=
  ∃ p v, e = .returned (.tuple #[p, v, .int .i64 (Wal.openE M n)]) ∧ RefAt w' r (Wal.openM M n) ∧ Only (fun k => k = r) w w' ∧
    ((Wal.openE M n = 0 ∧ ∃ g, p = .pointer (some ⟨g, 0, none⟩) ∧ w.heap.size ≤ g ∧ RLogAt w' g r n ∧ Strs w' w.heap.size v (Wal.openL M n)) ∨ (Wal.openE M n ≠ 0 ∧ p = .pointer none ∧ v = .slice none 0 0))
theorem ROpenEnd.no {M : DM} {n : Int} {r : Nat} {w w' : World} (x : Int) (M' : DM) (hx : Wal.openE M n = x) (hM : Wal.openM M n = M') (h0 : x ≠ 0) (hd : RefAt w' r M') (ho : Only (fun k => k = r) w w') :
    ROpenEnd M n r w (.returned (.tuple #[.pointer none, .slice none 0 0, .int .i64 x])) w' := by
  subst hx; subst hM
  exact ⟨_, _, rfl, hd, ho, .inr ⟨h0, rfl, rfl⟩⟩
theorem ROpenEnd.ok {M : DM} {n : Int} {r : Nat} {w w' : World} (M' : DM) (hx : Wal.openE M n = 0) (hM : Wal.openM M n = M') (hd : RefAt w' r M') (ho : Only (fun k => k = r) w w') (g : Nat) (v : Value) (hg : w.heap.size ≤ g) (hl : RLogAt w' g r n)
    (hv : Strs w' w.heap.size v (Wal.openL M n)) : ROpenEnd M n r w (.returned (.tuple #[.pointer (some ⟨g, 0, none⟩), v, .int .i64 0])) w' := by
  subst hM
  exact ⟨_, _, by rw [hx], hd, ho, .inl ⟨hx, g, rfl, hg, hl, hv⟩⟩

set_option maxRecDepth 100000 in
set_option maxHeartbeats 2000000 in
theorem ropen_at (w : World) (r : Nat) (M : DM) (n : Int) (h : RefAt w r M) :
    Calls Try.prog 42 #[.pointer (some ⟨r, 0, none⟩), .int .i64 n] w (ROpenEnd M n r w) := by
  have hrl := h.lt
  by_cases hn : n < 0 ∨ 16 ≤ n
  · have hE : Wal.openE M n = 1 := by unfold Wal.openE; rw [if_pos hn]
    have hM : Wal.openM M n = M := by unfold Wal.openM; rw [if_pos hn]
    have HE := Lib.hid hE
    have HM := Lib.hid hM
    clear hE hM
    rcases hn with hn | hn
    · go_enter Try.func42, Try.ntmps42
      go_wp2_with fail
      go_ret3
      exact ROpenEnd.no 1 M HE.out HM.out (by decide) h (Only.refl _ _)
    · have hn0 : ¬ n < 0 := by omega
      have hn1 : 15 < n := by omega
      clear hn
      go_enter Try.func42, Try.ntmps42
      go_wp2_with fail
      go_ret3
      exact ROpenEnd.no 1 M HE.out HM.out (by decide) h (Only.refl _ _)
  · have hn0 : ¬ n < 0 := by omega
    have hn1 : ¬ 15 < n := by omega
    have hE : Wal.openE M n = if Wal.o0E M n = 0 then Wal.o1E (Wal.o0 M n) n (M.read n) else Wal.o0E M n := by unfold Wal.openE; rw [if_neg hn]
    have hM : Wal.openM M n = if Wal.o0E M n = 0 then Wal.o1 (Wal.o0 M n) n (M.read n) else Wal.o0 M n := by unfold Wal.openM; rw [if_neg hn]
    have HE := Lib.hid hE
    have HM := Lib.hid hM
    have hsz := Wal.read_size h.ok n
    clear hE hM hn
    go_enter Try.func42, Try.ntmps42
    go_wp2_with fail
    obtain ⟨s, HS⟩ : ∃ s, RowKit.Hid (M.read n = s) := ⟨_, Lib.hid rfl⟩
    obtain ⟨k, HK⟩ : ∃ k, RowKit.Hid (M.readE n = k) := ⟨_, Lib.hid rfl⟩
    rw [HS.out] at hsz
    refine (R5.rread_as h HK.out HS.out).mono ?_
    rintro e w1 ⟨rfl, ho1⟩
    have hd1 := h.keeps ho1 (fun h => h)
    go_upto_if 24 with (fail)
    go_cut [7, 8] (fun v7 v8 wx => ∃ x : Int, v7 = .string s ∧ v8 = .int .i64 x ∧ RefAt wx r (Wal.o0 M n) ∧ Only (fun k => k = r) w wx ∧ RowKit.Hid (Wal.o0E M n = x))
    case first =>
      by_cases hk : k = 12
      · subst hk
        have hs0 : s = ByteArray.empty := by rw [← HS.out]; exact Wal.read_none HK.out
        subst hs0
        go_wp2_with (first
          | (go_at_call 13; refine (R5.rrep_as hd1 (by decide) rfl rfl).mono ?_; rintro e w2 ⟨rfl, hd2, ho2⟩))
        go_meet
        exact ⟨_, rfl, rfl, by rw [show Wal.o0 M n = M.replace n ByteArray.empty from by unfold Wal.o0; rw [if_pos HK.out]]; exact hd2, ho1.of_no.trans ho2, Lib.hid (by unfold Wal.o0E; rw [if_pos HK.out]; rfl)⟩
      · have hkb : (k == 12) = false := by simpa using hk
        have hk' : ¬ M.readE n = 12 := by rw [HK.out]; exact hk
        have HK' := Lib.hid hk'
        clear hk hk'
        go_wp2_with fail
        go_meet
        exact ⟨k, rfl, rfl, by rw [show Wal.o0 M n = M from by unfold Wal.o0; rw [if_neg HK'.out]]; exact hd1, ho1.of_no, Lib.hid (by unfold Wal.o0E; rw [if_neg HK'.out]; exact HK.out)⟩
    case rest =>
      obtain ⟨x, rfl, rfl, hd2, ho2, HX⟩ := hcut
      by_cases hx : x = 0
      · subst hx
        have hE2 : Wal.openE M n = Wal.o1E (Wal.o0 M n) n s := by rw [HE.out, if_pos HX.out, HS.out]
        have hM2 : Wal.openM M n = Wal.o1 (Wal.o0 M n) n s := by rw [HM.out, if_pos HX.out, HS.out]
        have HE2 := Lib.hid hE2
        have HM2 := Lib.hid hM2
        clear HE HM hE2 hM2
        go_wp2_with fail
        refine (rscan_at _ s (by omega)).mono ?_
        rintro e w3 ⟨v, rfl, hv3, ho3⟩
        have hd3 := hd2.keeps ho3 (fun h => h)
        have hwl := Wal.whole_le s
        have HL : RowKit.Hid (Wal.openL M n = (Wal.scan (nums s)).1.map textOf) := Lib.hid (by unfold Wal.openL Wal.recs; rw [HS.out])
        rw [← HL.out] at hv3
        replace hv3 : Strs w3 w.heap.size v (Wal.openL M n) := hv3.lower ho2.size
        have hdx : ∀ k, k = r → k < w.heap.size := by rintro k rfl; assumption
        have HDX := Lib.hid hdx
        clear hdx
        rw [show (Wal.scan (nums s)).2 = Wal.whole s from rfl]
        go_upto_if 39 with (fail)
        go_cut [8] (fun v8 wx => v8 = .int .i64 (Wal.o1E (Wal.o0 M n) n s) ∧ RefAt wx r (Wal.o1 (Wal.o0 M n) n s) ∧ Only (fun k => k = r) w wx ∧ Strs wx w.heap.size v (Wal.openL M n))
        case first =>
          by_cases hlt : Wal.whole s < s.size
          · have hE3 : Wal.o1E (Wal.o0 M n) n s = (Wal.o0 M n).replaceE n (s.extract 0 (Wal.whole s)) := by unfold Wal.o1E; rw [if_pos hlt]
            have hM3 : Wal.o1 (Wal.o0 M n) n s = (Wal.o0 M n).replace n (s.extract 0 (Wal.whole s)) := by unfold Wal.o1; rw [if_pos hlt]
            have HE3 := Lib.hid hE3
            have HM3 := Lib.hid hM3
            clear hE3 hM3
            go_wp2_with (first
              | (go_at_call 13; refine (R5.rrep_as hd3 (by simp; omega) HE3.out.symm HM3.out.symm).mono ?_; rintro e w4 ⟨rfl, hd4, ho4⟩))
            go_meet
            exact ⟨rfl, hd4, (ho2.trans ho3.of_no).trans ho4, hv3.keeps2 ho4 HDX.out⟩
          · have hE3 : Wal.o1E (Wal.o0 M n) n s = (Wal.o0 M n).syncE n := by unfold Wal.o1E; rw [if_neg hlt]
            have hM3 : Wal.o1 (Wal.o0 M n) n s = (Wal.o0 M n).sync n := by unfold Wal.o1; rw [if_neg hlt]
            have HE3 := Lib.hid hE3
            have HM3 := Lib.hid hM3
            clear hE3 hM3
            go_wp2_with (first
              | (go_at_call 70; refine (R5.rsyn_as hd3 HE3.out.symm HM3.out.symm).mono ?_; rintro e w4 ⟨rfl, hd4, ho4⟩))
            go_meet
            exact ⟨rfl, hd4, (ho2.trans ho3.of_no).trans ho4, hv3.keeps2 ho4 HDX.out⟩
        case rest =>
          obtain ⟨rfl, hd5, ho5, hv5⟩ := hcut
          by_cases hz : Wal.o1E (Wal.o0 M n) n s = 0
          · have HZ := Lib.hid hz
            clear hz
            rw [HZ.out]
            go_wp2_with fail
            go_ret3
            exact ROpenEnd.ok _ (by rw [HE2.out, HZ.out]) HM2.out (hd5.keeps ((Only.refl NoBlock _).alloc _) (fun h => h)) (ho5.alloc _) _ v ho5.size (Blk.made _ _ _) (hv5.keeps ((Only.refl NoBlock _).alloc _) (fun _ _ h => h))
          · have hzb : (Wal.o1E (Wal.o0 M n) n s != 0) = true := by simpa using hz
            have HZ := Lib.hid hz
            clear hz
            go_wp2_with fail
            go_ret3
            exact ROpenEnd.no _ _ HE2.out HM2.out HZ.out hd5 ho5
      · have hE2 : Wal.openE M n = x := by rw [HE.out, if_neg (by rw [HX.out]; exact hx), HX.out]
        have hM2 : Wal.openM M n = Wal.o0 M n := by rw [HM.out, if_neg (by rw [HX.out]; exact hx)]
        have HE2 := Lib.hid hE2
        have HM2 := Lib.hid hM2
        have HX0 := Lib.hid hx
        have hxb : (x != 0) = true := by simpa using hx
        clear HE HM hE2 hM2 hx
        go_wp2_with fail
        go_ret3
        exact ROpenEnd.no _ _ HE2.out HM2.out HX0.out hd2 ho2

theorem RLogAt.apart {w : World} {g r : Nat} {n : Int} {M : DM} (h : RLogAt w g r n) (hd : RefAt w r M) : g ≠ r := by
  intro e
  subst e
  obtain ⟨_, cs, fi, so, th, hb, _⟩ := hd
  unfold RLogAt Blk at h
  unfold Blk at hb
  rw [h] at hb
  cases hb

namespace Wal
/-- what framing some texts gives -/
def ftext (l : List ByteArray) : ByteArray := if long l = true then ByteArray.empty else text l
theorem ftext_long {l : List ByteArray} (h : long l = true) : ftext l = ByteArray.empty := by unfold ftext; rw [if_pos h]
theorem ftext_ok {l : List ByteArray} (h : long l = false) : ftext l = text l := by unfold ftext; rw [h, if_neg (by decide)]
end Wal
def RLogEnd (k : Int) (M' : DM) (r : Nat) (w : World) (e : Ending) (w' : World) : Prop :=
  e = .returned (.int .i64 k) ∧ RefAt w' r M' ∧ Only (fun k => k = r) w w'

end Go.Proofs.Ytekmjhenhgmpgaa

/- The document's log of entries: which members data says, which entries may lie where, which logs there may be; may it be a state. -/
namespace Go.Proofs.Ytekmjhenhgmpgaa
open Go.RowKit
set_option maxRecDepth 100000

theorem text_ne {s : List Int} (h : ¬ s = []) : ¬ textOf s = ({ data := #[] } : ByteArray) := by
  intro e
  have h1 := congrArg ByteArray.size e
  rw [textOf_size] at h1
  exact h (List.length_eq_zero_iff.1 (h1.trans rfl))

theorem text_nee {s : List Int} (h : ¬ s = []) : (textOf s).toList.isEmpty = false := by
  cases he : (textOf s).toList with
  | nil =>
    rw [ByteArray.toList_eq] at he
    have h1 := congrArg List.length he
    rw [Array.length_toList] at h1
    have h2 : (textOf s).size = 0 := h1
    rw [textOf_size] at h2
    exact absurd (List.length_eq_zero_iff.1 h2) h
  | cons a b => rfl

set_option maxHeartbeats 2000000 in
theorem rcfg_at (w : World) (d : ByteArray) (hd : d.size ≤ 1000000000000) :
    Calls Try.prog 97 #[.string d] w fun e w' => e = .returned (.tuple #[.int .u64 (Rl.cfgV d : Nat), .bool (Rl.cfgB d)]) ∧ Only NoBlock w w' := by
  have hb := Blk.made w #[.string d, .bool false] 145
  have hn := (Only.refl NoBlock w).alloc (Obj.cells #[.string d, .bool false] 145)
  have HC : RowKit.Hid (Rl.cfgB d = ((Pk.numR ⟨nums d, false⟩).done && Qu.soundB (Rl.cfgV d))) := Lib.hid rfl
  have HV : RowKit.Hid (Pk.numV (nums d) = Rl.cfgV d) := Lib.hid rfl
  have hvl : Rl.cfgV d < 18446744073709551616 := Pk.numV_lt (nums_byte d)
  have hX0 : w.heap.size ≤ w.heap.size := Nat.le_refl _
  go_enter Try.func97, Try.ntmps97
  go_upto_region 2 with fail
  obtain ⟨X, hX⟩ : ∃ X, w.heap.size = X := ⟨_, rfl⟩
  have HW : RowKit.Hid (∀ k, k < w.heap.size → ¬ k = X) := Lib.hid (fun k hk e => by omega)
  rw [hX] at hb ⊢
  clear hX hX0
  generalize w.alloc (Obj.cells #[.string d, .bool false] 145) = w1 at hb hn ⊢
  have hD : DReaderAt w1 X ⟨nums d, false⟩ := ⟨by rw [textOf_nums]; exact hb, nums_byte d, by rw [nums_length]; exact hd⟩
  clear hb
  go_wp2_with fail
  refine (dnumr_at w1 X _ hD).mono ?_
  rintro e w2 ⟨he, hD2, ho2⟩
  simp only at he
  rw [HV.out] at he
  subst he
  have hn2 : Only NoBlock w w2 := hn.andThen ho2 (fun k hk e => HW.out k hk e)
  clear hn ho2 hD
  generalize Pk.numR ⟨nums d, false⟩ = r at HC hD2
  obtain ⟨s, bad⟩ := r
  obtain ⟨hB, -, -⟩ := hD2
  simp only at hB
  have c0 : w2.cell? ⟨X, 0, none⟩ = some (.string (textOf s)) := by rw [hB.cell]; rfl
  have c1 : w2.cell? ⟨X, 1, none⟩ = some (.bool bad) := by rw [hB.cell]; rfl
  cases bad with
  | true =>
    have HQ : RowKit.Hid (Rl.cfgB d = false) := Lib.hid (by rw [HC.out]; simp [Pk.RD.done])
    go_wp2_with fail
    go_ret2
    exact ⟨by rw [HQ.out]; rfl, hn2⟩
  | false =>
    by_cases hs : s = []
    · subst hs
      have HQ : RowKit.Hid (Rl.cfgB d = Qu.soundB (Rl.cfgV d)) := Lib.hid (by rw [HC.out]; simp [Pk.RD.done])
      have he : textOf ([] : List Int) = ({ data := #[] } : ByteArray) := rfl
      rw [he] at c0
      go_wp2_with fail
      refine (rsound_at w2 (Rl.cfgV d) (by omega)).mono ?_
      rintro e w3 ⟨rfl, rfl⟩
      go_wp2_with fail
      go_ret2
      exact ⟨by rw [HQ.out]; rfl, hn2⟩
    · have HQ : RowKit.Hid (Rl.cfgB d = false) := Lib.hid (by rw [HC.out]; cases s with | nil => exact absurd rfl hs | cons a b => simp [Pk.RD.done])
      have hne := text_nee hs
      clear hs
      go_wp2_with fail
      go_ret2
      exact ⟨by rw [HQ.out]; rfl, hn2⟩
end Go.Proofs.Ytekmjhenhgmpgaa

/- The document's May: may an entry lie at an index behind a term. -/
namespace Go.Proofs.Ytekmjhenhgmpgaa
open Go.RowKit
set_option maxRecDepth 100000

set_option maxHeartbeats 8000000 in
theorem rmay_at (w : World) (et ei : Nat) (ek : Int) (ed : ByteArray) (index term : Nat) (hd : ed.size ≤ 1000000000000) :
    Calls Try.prog 93 #[.agg #[.int .u64 et, .int .u64 ei, .int .i64 ek, .string ed], .int .u64 index, .int .u64 term] w fun e w' => e = .returned (.bool (Rl.sound ⟨et, ei, ek, ed⟩ index term)) ∧ Only NoBlock w w' := by
  have hb := Blk.made w #[.int .u64 et, .int .u64 ei, .int .i64 ek, .string ed] 77
  have hn := (Only.refl NoBlock w).alloc (Obj.cells #[.int .u64 et, .int .u64 ei, .int .i64 ek, .string ed] 77)
  have HS : RowKit.Hid (Rl.sound ⟨et, ei, ek, ed⟩ index term = (decide (index ≠ 0 ∧ ei = index ∧ term ≤ et ∧ 0 ≤ ek ∧ ek ≤ 2 ∧ ed.size ≤ 32768) && (decide (ek ≠ 2) || Rl.cfgB ed))) := Lib.hid rfl
  go_enter Try.func93, Try.ntmps93
  go_upto_region 1 with fail
  generalize w.heap.size = X at hb ⊢
  generalize w.alloc (Obj.cells #[.int .u64 et, .int .u64 ei, .int .i64 ek, .string ed] 77) = w1 at hb hn ⊢
  have a0 : w1.cell? ⟨X, 0, none⟩ = some (.int .u64 et) := by rw [hb.cell]; rfl
  have a1 : w1.cell? ⟨X, 1, none⟩ = some (.int .u64 ei) := by rw [hb.cell]; rfl
  have a2 : w1.cell? ⟨X, 2, none⟩ = some (.int .i64 ek) := by rw [hb.cell]; rfl
  have a3 : w1.cell? ⟨X, 3, none⟩ = some (.string ed) := by rw [hb.cell]; rfl
  by_cases hk : ek = 2
  · subst hk
    go_wp2_with fail
    refine (rcfg_at w1 ed hd).mono ?_
    rintro e w2 ⟨rfl, ho2⟩
    have hb2 := hb.keeps ho2 (fun h => h)
    have HN := Lib.hid (hn.trans ho2)
    clear hb hn ho2 a0 a1 a2 a3
    have a0 : w2.cell? ⟨X, 0, none⟩ = some (.int .u64 et) := by rw [hb2.cell]; rfl
    have a1 : w2.cell? ⟨X, 1, none⟩ = some (.int .u64 ei) := by rw [hb2.cell]; rfl
    have a2 : w2.cell? ⟨X, 2, none⟩ = some (.int .i64 2) := by rw [hb2.cell]; rfl
    have a3 : w2.cell? ⟨X, 3, none⟩ = some (.string ed) := by rw [hb2.cell]; rfl
    cases hq : Rl.cfgB ed with
    | false =>
      have HQ : RowKit.Hid (Rl.sound ⟨et, ei, 2, ed⟩ index term = false) := Lib.hid (by rw [HS.out, hq]; simp)
      clear hq
      go_wp2_with fail
      go_ret
      exact ⟨by rw [HQ.out]; rfl, HN.out⟩
    | true =>
      have HK := Lib.hid hq
      clear hq
      by_cases g0 : 0 < index
      · have d0 : decide (0 < index) = true := by simpa using g0
        by_cases g1 : ei = index
        · have d1 : ((ei : Int) == (index : Int)) = true := by simp [g1]
          by_cases g2 : term ≤ et
          · have d2 : decide (term ≤ et) = true := by simpa using g2
            by_cases g5 : ed.size ≤ 32768
            · have d5 : decide (ed.size ≤ 32768) = true := by simpa using g5
              have dd5 : decide ((ed.size : Int) ≤ 32768) = true := by rw [← d5]; by_cases h : ed.size ≤ 32768 <;> simp [h] <;> omega
              have HQ : RowKit.Hid (Rl.sound ⟨et, ei, 2, ed⟩ index term = true) := Lib.hid (by rw [HS.out]; rw [decide_eq_true (by omega)]; simp [HK.out])
              go_wp2_with fail
              go_ret
              exact ⟨by rw [HQ.out]; rfl, HN.out⟩
            · have HQ : RowKit.Hid (Rl.sound ⟨et, ei, 2, ed⟩ index term = false) := Lib.hid (by rw [HS.out, decide_eq_false (by omega), Bool.false_and])
              have d5 : decide (ed.size ≤ 32768) = false := by simpa using g5
              have dd5 : decide ((ed.size : Int) ≤ 32768) = false := by rw [← d5]; by_cases h : ed.size ≤ 32768 <;> simp [h] <;> omega
              clear g5
              go_wp2_with fail
              go_ret
              exact ⟨by rw [HQ.out]; rfl, HN.out⟩
          · have HQ : RowKit.Hid (Rl.sound ⟨et, ei, 2, ed⟩ index term = false) := Lib.hid (by rw [HS.out, decide_eq_false (by omega), Bool.false_and])
            have d2 : decide (term ≤ et) = false := by simpa using g2
            clear g2
            go_wp2_with fail
            go_ret
            exact ⟨by rw [HQ.out]; rfl, HN.out⟩
        · have HQ : RowKit.Hid (Rl.sound ⟨et, ei, 2, ed⟩ index term = false) := Lib.hid (by rw [HS.out, decide_eq_false (by omega), Bool.false_and])
          have d1 : ((ei : Int) == (index : Int)) = false := by simp; omega
          clear g1
          go_wp2_with fail
          go_ret
          exact ⟨by rw [HQ.out]; rfl, HN.out⟩
      · have HQ : RowKit.Hid (Rl.sound ⟨et, ei, 2, ed⟩ index term = false) := Lib.hid (by rw [HS.out, decide_eq_false (by omega), Bool.false_and])
        have d0 : decide (0 < index) = false := by simpa using g0
        clear g0
        go_wp2_with fail
        go_ret
        exact ⟨by rw [HQ.out]; rfl, HN.out⟩
  · have HK := Lib.hid hk
    have hkb : (ek == 2) = false := by simpa using hk
    have HN := Lib.hid hn
    clear hk
    by_cases g0 : 0 < index
    · have d0 : decide (0 < index) = true := by simpa using g0
      by_cases g1 : ei = index
      · have d1 : ((ei : Int) == (index : Int)) = true := by simp [g1]
        by_cases g2 : term ≤ et
        · have d2 : decide (term ≤ et) = true := by simpa using g2
          by_cases g3 : 0 ≤ ek
          · have d3 : decide (0 ≤ ek) = true := by simpa using g3
            by_cases g4 : ek ≤ 2
            · have d4 : decide (ek ≤ 2) = true := by simpa using g4
              by_cases g5 : ed.size ≤ 32768
              · have d5 : decide (ed.size ≤ 32768) = true := by simpa using g5
                have dd5 : decide ((ed.size : Int) ≤ 32768) = true := by rw [← d5]; by_cases h : ed.size ≤ 32768 <;> simp [h] <;> omega
                have HQ : RowKit.Hid (Rl.sound ⟨et, ei, ek, ed⟩ index term = true) := Lib.hid (by rw [HS.out]; rw [decide_eq_true (by omega)]; simp [HK.out])
                go_wp2_with fail
                go_ret
                exact ⟨by rw [HQ.out]; rfl, HN.out⟩
              · have HQ : RowKit.Hid (Rl.sound ⟨et, ei, ek, ed⟩ index term = false) := Lib.hid (by rw [HS.out, decide_eq_false (by omega), Bool.false_and])
                have d5 : decide (ed.size ≤ 32768) = false := by simpa using g5
                have dd5 : decide ((ed.size : Int) ≤ 32768) = false := by rw [← d5]; by_cases h : ed.size ≤ 32768 <;> simp [h] <;> omega
                clear g5
                go_wp2_with fail
                go_ret
                exact ⟨by rw [HQ.out]; rfl, HN.out⟩
            · have HQ : RowKit.Hid (Rl.sound ⟨et, ei, ek, ed⟩ index term = false) := Lib.hid (by rw [HS.out, decide_eq_false (by omega), Bool.false_and])
              have d4 : decide (ek ≤ 2) = false := by simpa using g4
              clear g4
              go_wp2_with fail
              go_ret
              exact ⟨by rw [HQ.out]; rfl, HN.out⟩
          · have HQ : RowKit.Hid (Rl.sound ⟨et, ei, ek, ed⟩ index term = false) := Lib.hid (by rw [HS.out, decide_eq_false (by omega), Bool.false_and])
            have d3 : decide (0 ≤ ek) = false := by simpa using g3
            clear g3
            go_wp2_with fail
            go_ret
            exact ⟨by rw [HQ.out]; rfl, HN.out⟩
        · have HQ : RowKit.Hid (Rl.sound ⟨et, ei, ek, ed⟩ index term = false) := Lib.hid (by rw [HS.out, decide_eq_false (by omega), Bool.false_and])
          have d2 : decide (term ≤ et) = false := by simpa using g2
          clear g2
          go_wp2_with fail
          go_ret
          exact ⟨by rw [HQ.out]; rfl, HN.out⟩
      · have HQ : RowKit.Hid (Rl.sound ⟨et, ei, ek, ed⟩ index term = false) := Lib.hid (by rw [HS.out, decide_eq_false (by omega), Bool.false_and])
        have d1 : ((ei : Int) == (index : Int)) = false := by simp; omega
        clear g1
        go_wp2_with fail
        go_ret
        exact ⟨by rw [HQ.out]; rfl, HN.out⟩
    · have HQ : RowKit.Hid (Rl.sound ⟨et, ei, ek, ed⟩ index term = false) := Lib.hid (by rw [HS.out, decide_eq_false (by omega), Bool.false_and])
      have d0 : decide (0 < index) = false := by simpa using g0
      clear g0
      go_wp2_with fail
      go_ret
      exact ⟨by rw [HQ.out]; rfl, HN.out⟩
end Go.Proofs.Ytekmjhenhgmpgaa

/- The document's New and Right: which logs there may be, may it be a state. -/
namespace Go.Proofs.Ytekmjhenhgmpgaa
open Go.RowKit
set_option maxRecDepth 100000

/-- 'append' of a row of entries, as one step of a region that draws -/
theorem step_append_ents {ops : Array Oper} {o : Oper} {a : Act} {Q : Exit → Act → World → Prop} {K : Act → World → Prop} {E : Prop} (w : World) (hgd : o.guard = none) (s x : Operand) (ho : o.op = .call { callee := .builtin .append, args := #[s, x], argTypes := #[40, 40] })
    (base : Nat) (v : Value) (l m : List Ent) (ao : Option Addr) (k n : Nat) (hs : a.eval s = v) (hown : Ents w base v l) (hx : a.eval x = .slice ao k n) (hk : k = m.length) (hm : EntsIn w ao m)
    (hlen : l.length + m.length ≤ 3518437208883) (hbase : base ≤ w.heap.size)
    (h : ∀ v' w', Ents w' base v' (l ++ m) → w.grownBy w' v.ownBlock → (v'.ownBlock = v.ownBlock ∨ v'.ownBlock = some w.heap.size) → K (a.put o.dst v') w') : if Region.wanted o (yielded ops a.tmps) = true then Oper.wp Try.prog o a w K Q else E := by
  have hw : Region.wanted o (yielded ops a.tmps) = true := by simp [Region.wanted, hgd]
  rw [if_pos hw]
  subst hk
  obtain ⟨i, hi, hz, hsz, hby⟩ := info_parts En.info
  unfold Oper.wp execOp
  simp only [ho, resolve, invoke, builtin, Sem.run_bind, Sem.run_pure, Result.andThen_ok, List.map_toArray, List.map_cons, List.map_nil, hs, hx]
  have hwf : ∀ e ∈ l ++ m, e.Wf := by
    intro e he
    rcases List.mem_append.1 he with he | he
    · exact hown.2 e he
    · exact hm.wf e he
  cases ao with
  | none =>
    have hm0 : m = [] := by
      cases m with
      | nil => rfl
      | cons y r => obtain ⟨b, off, e, _⟩ := hm.cell 0 (by simp); cases e
    subst hm0
    rw [show ([] : List Ent).length = 0 from rfl, append_nothing base 40 o.type 77 i 4 En.u_ents hi v l.length _ hown.1 n]
    exact h v w (by rw [List.append_nil]; exact hown) ⟨rfl, rfl, rfl, Nat.le_refl _, fun _ _ _ => rfl⟩ (.inl rfl)
  | some ad =>
    obtain ⟨v', w', hr, h2, h3, _, h5⟩ := run_append_own_at (P := Try.prog) w base 40 o.type 77 i _ 4 40 En.u_ents hi hz hsz hby rfl (by decide) v l.length _ hown.1 ad m.length n (m.flatMap Ent.cells) (flat_length m) hm.flat cells_one (by unfold maxLen; omega) (by omega) hbase
    rw [hr]
    refine h v' w' ⟨?_, hwf⟩ h3 h5
    rw [List.flatMap_append, List.length_append]
    exact h2

namespace Rl
def newE (s : Snp) (l : List Ent) : Int := if newOk s l = true then 0 else 1
end Rl
def RNewEnd (s : Snp) (l : List Ent) (w : World) (e : Ending) (w' : World) : Prop := ∃ p, e = .returned (.tuple #[.pointer p, .int .i64 (Rl.newE s l)]) ∧ Only NoBlock w w'

set_option maxHeartbeats 4000000 in
theorem rnew7_at (w : World) (s : Snp) (hs : s.Wf) (ao : Option Addr) (cap : Nat) (l : List Ent) (hl : EntsIn w ao l) (hll : l.length ≤ 1000000000000) (hdat : ∀ e ∈ l, e.data.size ≤ 1000000000000) :
    Calls Try.prog 82 #[.agg #[.int .u64 s.index, .int .u64 s.term, .int .u64 s.config, .string s.data], .slice ao l.length cap] w (RNewEnd s l w) := by
  obtain ⟨si, st, sc, sd⟩ := s
  obtain ⟨h1, h2, h3, h4⟩ := hs
  simp only at h1 h2 h3 h4 ⊢
  have hb := Blk.made w #[.int .u64 si, .int .u64 st, .int .u64 sc, .string sd] 39
  have hn := (Only.refl NoBlock w).alloc (Obj.cells #[.int .u64 si, .int .u64 st, .int .u64 sc, .string sd] 39)
  have HOK : RowKit.Hid (Rl.newOk ⟨si, st, sc, sd⟩ l = (Qu.soundB sc && Rl.chain si st l)) := Lib.hid rfl
  go_enter Try.func82, Try.ntmps82
  go_upto_region 1 with fail
  generalize w.heap.size = X at hb ⊢
  generalize w.alloc (Obj.cells #[.int .u64 si, .int .u64 st, .int .u64 sc, .string sd] 39) = w1 at hb hn ⊢
  have a0 : w1.cell? ⟨X, 0, none⟩ = some (.int .u64 si) := by rw [hb.cell]; rfl
  have a1 : w1.cell? ⟨X, 1, none⟩ = some (.int .u64 st) := by rw [hb.cell]; rfl
  have a2 : w1.cell? ⟨X, 2, none⟩ = some (.int .u64 sc) := by rw [hb.cell]; rfl
  have a3 : w1.cell? ⟨X, 3, none⟩ = some (.string sd) := by rw [hb.cell]; rfl
  go_wp2_with fail
  refine (rsound_at w1 sc (by omega)).mono ?_
  rintro e w2 ⟨rfl, rfl⟩
  cases hq : Qu.soundB sc with
  | false =>
    have HE : RowKit.Hid (Rl.newE ⟨si, st, sc, sd⟩ l = 1) := Lib.hid (by unfold Rl.newE; rw [HOK.out, hq]; simp)
    clear hq
    go_wp2_with fail
    go_ret2
    exact ⟨_, by rw [HE.out]; rfl, hn⟩
  | true =>
    have HQ := Lib.hid hq
    clear hq
    go_wp2_with fail
    go_quiet (fail)
    go_wp2_with fail
    have hnq : Only NoBlock w (w1.drewN nq) := hn.drewN nq
    have hbq := hb.drewN nq
    generalize w1.drewN nq = w2 at hnq hbq ⊢
    clear hb hn a0 a1 a2 a3
    go_loopw [6, 7, 8] (fun u6 u7 u8 wr => ∃ (k : Nat), k ≤ l.length ∧ u8 = .int .i64 k ∧ u6 = .int .u64 (Rl.lastI ⟨si, st, sc, sd⟩ (l.take k)) ∧ u7 = .int .u64 (Rl.lastT ⟨si, st, sc, sd⟩ (l.take k)) ∧ RowKit.Hid (Rl.chain si st (l.take k) = true) ∧ Only NoBlock w wr ∧ Blk wr X #[.int .u64 si, .int .u64 st, .int .u64 sc, .string sd] 39) (fun _ _ u8 _ => l.length - (intOf u8).toNat)
    case atStart => exact ⟨0, by omega, rfl, rfl, rfl, Lib.hid rfl, hnq, hbq⟩
    case round =>
      clear hnq hbq
      obtain ⟨k, hk, rfl, rfl, rfl, HC, hn3, hb3⟩ := hrel
      by_cases hlt : k < l.length
      · obtain ⟨b, off, rfl, e0, e1, e2, e3⟩ := (hl.keeps hn3 (fun _ _ h => h)).cell k hlt
        have hwf := hl.at_wf hlt
        have hdk : (l.getD k Ent.zero).data.size ≤ 1000000000000 := by
          rw [List.getD_eq_getElem?_getD, List.getElem?_eq_getElem hlt]
          exact hdat _ (List.getElem_mem hlt)
        have hts := ents_take_snoc hlt
        have hcs := Rl.chain_snoc (l.take k) (l.getD k Ent.zero) si st
        rw [← hts, HC.out, Bool.true_and] at hcs
        have hnk : ∀ x, Rl.sound (l.getD k Ent.zero) (Rl.next (Rl.lastI ⟨si, st, sc, sd⟩ (l.take k))) (Rl.lastT ⟨si, st, sc, sd⟩ (l.take k)) = x → x = false → Rl.newOk ⟨si, st, sc, sd⟩ l = false := fun x h hx => Rl.newOk_no hlt (h.trans hx)
        have hlI : Rl.lastI ⟨si, st, sc, sd⟩ (l.take (k + 1)) = (l.getD k Ent.zero).index := by rw [hts]; unfold Rl.lastI; simp
        have hlT : Rl.lastT ⟨si, st, sc, sd⟩ (l.take (k + 1)) = (l.getD k Ent.zero).term := by rw [hts]; unfold Rl.lastT; simp
        have HCS : RowKit.Hid (Rl.chain si st (l.take (k + 1)) = Rl.sound (l.getD k Ent.zero) (Rl.next (Rl.lastI ⟨si, st, sc, sd⟩ (l.take k))) (Rl.lastT ⟨si, st, sc, sd⟩ (l.take k))) := Lib.hid hcs
        have HNK := Lib.hid hnk
        have HLI := Lib.hid hlI
        have HLT := Lib.hid hlT
        clear hts hcs hnk hlI hlT
        generalize hen : l.getD k Ent.zero = en at e0 e1 e2 e3 hwf hdk HCS HNK HLI HLT
        have HEN := Lib.hid hen
        clear hen
        obtain ⟨et, ei, ek, ed⟩ := en
        obtain ⟨w1', w2', -, -⟩ := hwf
        simp only at e0 e1 e2 e3 hdk w1' w2' HLI HLT
        have HNX : RowKit.Hid (Rl.next (Rl.lastI ⟨si, st, sc, sd⟩ (l.take k)) = (Rl.lastI ⟨si, st, sc, sd⟩ (l.take k) + 1) % 18446744073709551616) := Lib.hid rfl
        generalize Rl.lastI ⟨si, st, sc, sd⟩ (l.take k) = li at HCS HNK HNX ⊢
        generalize Rl.lastT ⟨si, st, sc, sd⟩ (l.take k) = lt at HCS HNK ⊢
        generalize Rl.next li = nx at HCS HNK HNX
        have hnx : IntKind.u64.wrap ((li : Int) + 1) = (nx : Int) := by rw [IntKind.wrap_u64, HNX.out]; omega
        go_wp2_with fail
        refine (rmay_at wr et ei ek ed nx lt (by omega)).mono ?_
        rintro e w4 ⟨rfl, ho4⟩
        have hn4 := hn3.trans ho4
        have hb4 := hb3.keeps ho4 (fun h => h)
        have hl4 := (hl.keeps hn4 (fun _ _ h => h)).cell k hlt
        clear hn3 hb3 ho4 e0 e1 e2 e3
        cases hq2 : Rl.sound ⟨et, ei, ek, ed⟩ nx lt with
        | false =>
          have HE : RowKit.Hid (Rl.newE ⟨si, st, sc, sd⟩ l = 1) := Lib.hid (by unfold Rl.newE; rw [HNK.out _ rfl hq2]; simp)
          clear hq2 hl4
          go_wp2_with fail
          go_ret2
          exact ⟨_, by rw [HE.out]; rfl, hn4⟩
        | true =>
          have HC2 : RowKit.Hid (Rl.chain si st (l.take (k + 1)) = true) := Lib.hid (by rw [HCS.out, hq2])
          clear hq2 HCS HNK
          obtain ⟨b', off', he', f0, f1, f2, f3⟩ := hl4
          cases he'
          rw [HEN.out] at f0 f1 f2 f3
          simp only at f0 f1 f2 f3
          go_wp2_with fail
          go_quiet (fail)
          go_wp2_with fail
          go_roundw
          case rel => exact ⟨k + 1, by omega, by go_num, by rw [HLI.out], by rw [HLT.out], HC2, hn4.drewN _, hb4.drewN _⟩
          case measure => simp [intOf]; omega
      · obtain rfl : k = l.length := by omega
        rw [List.take_length] at HC
        have HE : RowKit.Hid (Rl.newE ⟨si, st, sc, sd⟩ l = 0) := Lib.hid (by unfold Rl.newE; rw [HOK.out, HQ.out, HC.out]; rfl)
        have a0 : wr.cell? ⟨X, 0, none⟩ = some (.int .u64 si) := by rw [hb3.cell]; rfl
        have a1 : wr.cell? ⟨X, 1, none⟩ = some (.int .u64 st) := by rw [hb3.cell]; rfl
        have a2 : wr.cell? ⟨X, 2, none⟩ = some (.int .u64 sc) := by rw [hb3.cell]; rfl
        have a3 : wr.cell? ⟨X, 3, none⟩ = some (.string sd) := by rw [hb3.cell]; rfl
        have hl3 := hl.keeps hn3 (fun _ _ h => h)
        go_wp2_with fail
        go_region_law ((refine step_append_ents _ rfl _ _ rfl w.heap.size (.slice none 0 0) [] l _ _ _ rfl (Ents.nil _ _) rfl rfl (hl3.keeps (Only.refl NoBlock _).drew (fun _ _ h => h)) ?_ ?_ ?_; (simp; omega); (have := hn3.size; simp; omega); intro v4 w4 he4 hg4 _; simp only [List.nil_append] at he4; obtain ⟨ao4, cap4, rfl⟩ := he4.shape; have hb4 : Blk w4 X _ _ := hb3.drew.keeps (Only.of_grown hg4) (fun e => by cases e); have z0 : w4.cell? ⟨X, 0, none⟩ = some (.int .u64 si) := by rw [hb4.cell]; rfl
                        have z1 : w4.cell? ⟨X, 1, none⟩ = some (.int .u64 st) := by rw [hb4.cell]; rfl
                        have z2 : w4.cell? ⟨X, 2, none⟩ = some (.int .u64 sc) := by rw [hb4.cell]; rfl
                        have z3 : w4.cell? ⟨X, 3, none⟩ = some (.string sd) := by rw [hb4.cell]; rfl))
        all_goals
          have hn4 := ((hn3.drew).grown hg4 (fun k hk => by cases hk)).alloc (Obj.cells #[.int .u64 si, .int .u64 st, .int .u64 sc, .string sd, .slice ao4 l.length cap4] 161)
          go_wp2_with fail
          go_ret2
          exact ⟨_, by rw [HE.out]; rfl, hn4⟩

set_option maxHeartbeats 2000000 in
theorem rright8_raw (w : World) (ht : Nat) (hv : Int) (si st sc : Nat) (sd : ByteArray) (hs : (⟨si, st, sc, sd⟩ : Snp).Wf) (ao : Option Addr) (cap : Nat) (l : List Ent) (hl : EntsIn w ao l) (hll : l.length ≤ 1000000000000) (hdat : ∀ e ∈ l, e.data.size ≤ 1000000000000) :
    Calls Try.prog 56 #[.agg #[.int .u64 ht, .int .i64 hv, .int .u64 si, .int .u64 st, .int .u64 sc, .string sd, .slice ao l.length cap]] w fun e w' => e = .returned (.bool (rightB ⟨ht, hv⟩ ⟨si, st, sc, sd⟩ l)) ∧ Only NoBlock w w' := by
  have hbx := Blk.made w #[.int .u64 ht, .int .i64 hv, .int .u64 si, .int .u64 st, .int .u64 sc, .string sd, .slice ao l.length cap] 50
  have hn := (Only.refl NoBlock w).alloc (Obj.cells #[.int .u64 ht, .int .i64 hv, .int .u64 si, .int .u64 st, .int .u64 sc, .string sd, .slice ao l.length cap] 50)
  go_enter Try.func56, Try.ntmps56
  go_upto_region 1 with fail
  generalize w.heap.size = X at hbx ⊢
  generalize w.alloc (Obj.cells #[.int .u64 ht, .int .i64 hv, .int .u64 si, .int .u64 st, .int .u64 sc, .string sd, .slice ao l.length cap] 50) = w1 at hbx hn ⊢
  have b1 : w1.cell? ⟨X, 1, none⟩ = some (.int .i64 hv) := by rw [hbx.cell]; rfl
  have b2 : w1.cell? ⟨X, 2, none⟩ = some (.int .u64 si) := by rw [hbx.cell]; rfl
  have b3 : w1.cell? ⟨X, 3, none⟩ = some (.int .u64 st) := by rw [hbx.cell]; rfl
  have b4 : w1.cell? ⟨X, 4, none⟩ = some (.int .u64 sc) := by rw [hbx.cell]; rfl
  have b5 : w1.cell? ⟨X, 5, none⟩ = some (.string sd) := by rw [hbx.cell]; rfl
  have b6 : w1.cell? ⟨X, 6, none⟩ = some (.slice ao l.length cap) := by rw [hbx.cell]; rfl
  go_wp2_with fail
  refine (rnew7_at w1 ⟨si, st, sc, sd⟩ hs ao cap l (hl.keeps hn (fun _ _ h => h)) hll hdat).mono ?_
  rintro e w2 ⟨p, rfl, ho2⟩
  have hO := hn.trans ho2
  have hb := hbx.keeps ho2 (fun h => h)
  clear b1 b2 b3 b4 b5 b6 hbx hn ho2
  have b1 : w2.cell? ⟨X, 1, none⟩ = some (.int .i64 hv) := by rw [hb.cell]; rfl
  have HR : RowKit.Hid (rightB ⟨ht, hv⟩ ⟨si, st, sc, sd⟩ l = (Rl.newOk ⟨si, st, sc, sd⟩ l && (decide (-1 ≤ hv) && decide (hv < 7)))) := Lib.hid rfl
  cases hk : Rl.newOk ⟨si, st, sc, sd⟩ l with
  | true =>
    have he : Rl.newE ⟨si, st, sc, sd⟩ l = 0 := by unfold Rl.newE; rw [hk]; rfl
    rw [hk, Bool.true_and] at HR
    rw [he]
    clear hk he
    by_cases h1 : -1 ≤ hv
    · have d1 : decide (-1 ≤ hv) = true := by simpa using h1
      rw [d1, Bool.true_and] at HR
      have d2 : decide (hv ≤ 6) = decide (hv < 7) := by by_cases h : hv < 7 <;> simp [h] <;> omega
      generalize decide (hv < 7) = q at d2 HR
      go_wp2_with fail
      go_ret
      exact ⟨by rw [HR.out]; rfl, hO⟩
    · have d1 : decide (-1 ≤ hv) = false := by simpa using h1
      rw [d1, Bool.false_and] at HR
      go_wp2_with fail
      go_ret
      exact ⟨by rw [HR.out]; rfl, hO⟩
  | false =>
    have he : Rl.newE ⟨si, st, sc, sd⟩ l = 1 := by unfold Rl.newE; rw [hk]; rfl
    rw [hk, Bool.false_and] at HR
    rw [he]
    clear hk he
    go_wp2_with fail
    go_ret
    exact ⟨by rw [HR.out]; rfl, hO⟩
end Go.Proofs.Ytekmjhenhgmpgaa

/- The document's take: a record's bytes, into a state. -/
namespace Go.Proofs.Ytekmjhenhgmpgaa
open Go.RowKit
set_option maxRecDepth 100000

theorem results_cell_tmp {P : Program} {fn : Func} {p u : Tmp} {ty : TypeId} (h : fn.results = #[.cell p ty, .tmp u]) (tmps : Array Value) (w : World) (g : Nat) (t : TypeId) (cs : Array Value) (fr : Nat × Nat) (d : TypeDesc)
    (hp : tmps.getD p undef = .pointer (some ⟨g, 0, none⟩)) (hg : w.heap[g]? = some (.cells cs t fr))
    (hu : P.underlying ty = some d) (hd : (match d with | .struct _ | .array _ _ => true | _ => false) = true) (hi : (P.info? ty).map (·.size) = some cs.size) :
    (results fn tmps).run P w = .ok (.tuple #[.agg cs, tmps.getD u undef]) w := by
  have hp' : tmps[p]?.getD undef = .pointer (some ⟨g, 0, none⟩) := by simpa using hp
  simp [results, h, hp', asAddr, run_loadVar_row w g t ty cs fr d hg hu hd hi]
theorem vset_blk8 {w : World} {g : Nat} (h : Blk w g #[.int .u64 0, .int .i64 0, .int .u64 0, .int .u64 0, .int .u64 0, .string { data := #[] }, .slice none 0 0] 50) (v0 v1 v2 v3 v4 v5 v6 : Value) : Blk (vset w g v0 v1 v2 v3 v4 v5 v6) g #[v0, v1, v2, v3, v4, v5, v6] 50 := (((((((h.setCell 0 v0).setCell 1 v1).setCell 2 v2).setCell 3 v3).setCell 4 v4).setCell 5 v5).setCell 6 v6)
theorem u_rstate : ∃ fs, Try.prog.underlying 50 = some (.struct fs) := ⟨_, rfl⟩
theorem size_rstate : (Try.prog.info? 50).map (·.size) = some 7 := by kernel_rfl
theorem DReaderAt.keeps {S : Nat → Prop} {w w' : World} {p : Nat} {r : Pk.RD} (h : DReaderAt w p r) (ho : Only S w w') (hs : ¬ S p) : DReaderAt w' p r := ⟨h.1.keeps ho hs, h.2⟩
/-- where take stands: the state, the result, the reader -/
structure TkAt (w wx : World) (X : Nat) (cs : Array Value) (r : Pk.RD) : Prop where
  st : Blk wx X cs 50
  res : Blk wx (X + 1) #[.int .u64 0, .int .i64 0, .int .u64 0, .int .u64 0, .int .u64 0, .string { data := #[] }, .slice none 0 0] 50
  rd : DReaderAt wx (X + 2) r
  no : Only NoBlock w wx
  le : w.heap.size ≤ X
theorem TkAt.set {w wx : World} {X : Nat} {cs : Array Value} {r : Pk.RD} (h : TkAt w wx X cs r) (i : Nat) (v : Value) : TkAt w (wx.setCell ⟨X, i, none⟩ v) X (cs.setIfInBounds i v) r :=
  ⟨h.st.setCell i v, h.res.setCell_other (p := ⟨X, i, none⟩) (by show X + 1 ≠ X; omega) v, h.rd.keeps ((Only.refl (fun k => k = X) wx).setCell (p := ⟨X, i, none⟩) (fun _ => rfl) v) (by omega),
   h.no.andThen ((Only.refl (fun k => k = X) wx).setCell (p := ⟨X, i, none⟩) (fun _ => rfl) v) (fun k hk e => by have e' : k = X := e; have := h.le; omega), h.le⟩
theorem TkAt.read {w wx wy : World} {X : Nat} {cs : Array Value} {r r' : Pk.RD} (h : TkAt w wx X cs r) (ho : Only (fun k => k = X + 2) wx wy) (hd : DReaderAt wy (X + 2) r') : TkAt w wy X cs r' :=
  ⟨h.st.keeps ho (by omega), h.res.keeps ho (by omega), hd, h.no.andThen ho (fun k hk e => by have e' : k = X + 2 := e; have := h.le; omega), h.le⟩
theorem TkAt.keeps {S : Nat → Prop} {w wx wy : World} {X : Nat} {cs : Array Value} {r : Pk.RD} (h : TkAt w wx X cs r) (ho : Only S wx wy) (hs : ∀ k, S k → X + 2 < k) : TkAt w wy X cs r :=
  ⟨h.st.keeps ho (fun e => by have := hs _ e; omega), h.res.keeps ho (fun e => by have := hs _ e; omega), h.rd.keeps ho (fun e => by have := hs _ e; omega), h.no.andThen ho (fun k hk e => by have := hs _ e; have := h.le; omega), h.le⟩
/-- a row of the call's own lies behind the state, the result, the reader -/
theorem row_far {w wx : World} {X : Nat} {cs : Array Value} {r : Pk.RD} {v : Value} {l : List Ent} {base k : Nat} (h : Ents wx base v l) (hk : TkAt w wx X cs r) (hb : w.heap.size = X) (hbs : base = w.heap.size) (e : v.ownBlock = some k) : X + 2 < k := by
  have h0 := (World.ownsRow.lt h.1 k e).1
  have h1 := h.apart hk.st (by decide)
  have h2 := h.apart hk.res (by decide)
  have h3 := h.apart hk.rd.1 (by decide)
  rw [e] at h1 h2 h3
  have g1 : k ≠ X := fun e => h1 (by rw [e])
  have g2 : k ≠ X + 1 := fun e => h2 (by rw [e])
  have g3 : k ≠ X + 2 := fun e => h3 (by rw [e])
  omega
/-- where a row may lie: where another one lay, or in a block made since -/
def Far (base : Nat) (o ao : Option Addr) : Prop := ∀ a, ao = some a → ao = o ∨ base ≤ a.block
theorem Far.same (base : Nat) (o : Option Addr) : Far base o o := fun _ _ => .inl rfl
theorem Far.none (base : Nat) (o : Option Addr) : Far base o none := fun a e => by cases e
theorem Far.trans {b b' : Nat} {o p q : Option Addr} (h : Far b o p) (h' : Far b' p q) (hb : b ≤ b') : Far b o q := fun a e => by
  rcases h' a e with e1 | e1
  · rcases h a (by rw [← e1]; exact e) with e2 | e2
    · exact .inl (e1.trans e2)
    · exact .inr e2
  · exact .inr (Nat.le_trans hb e1)
theorem Far.own {w : World} {base n cap : Nat} {ao : Option Addr} {l : List Ent} (h : Ents w base (.slice ao n cap) l) (o : Option Addr) : Far base o ao := fun a e => .inr ((World.ownsRow.lt h.1 a.block (by subst e; rfl)).1)
/-- what take leaves ahead of its end -/
def TkEnd (w wx : World) (X : Nat) (s : St) (b : ByteArray) (ao0 : Option Addr) : Prop := ∃ (s' : St) (ao' : Option Addr) (cap' : Nat) (r' : Pk.RD), TkAt w wx X (stCells s'.hard s'.snap (.slice ao' s'.es.length cap')) r' ∧ EntsIn wx ao' s'.es ∧ RowKit.Hid (∀ wy, Only (fun k => k = X + 1) wx wy → EntsIn wy ao' s'.es) ∧
  RowKit.Hid (Sto.take s b = if r'.done = true then some s' else none) ∧ s'.hard.Wf ∧ s'.snap.Wf ∧ s'.es.length ≤ s.es.length + 1 ∧ Far w.heap.size ao0 ao'
/-- what the document's take answers -/
def RTakeEnd (s : St) (b : ByteArray) (ao0 : Option Addr) (w : World) (e : Ending) (w' : World) : Prop :=
  ∃ (ok : Bool) (s' : St) (ao : Option Addr) (cap : Nat), e = .returned (.tuple #[.agg (stCells s'.hard s'.snap (.slice ao s'.es.length cap)), .bool ok]) ∧ EntsIn w' ao s'.es ∧ Only NoBlock w w' ∧ Sto.take s b = (if ok = true then some s' else none) ∧ s'.hard.Wf ∧ s'.snap.Wf ∧ s'.es.length ≤ s.es.length + 1 ∧ Far w.heap.size ao0 ao

set_option maxHeartbeats 8000000 in
theorem rtake_raw (w : World) (ht : Nat) (hv : Int) (si st sc : Nat) (sd : ByteArray) (es : List Ent) (ao : Option Addr) (cap : Nat) (hh : (⟨ht, hv⟩ : Hrd).Wf) (hs : (⟨si, st, sc, sd⟩ : Snp).Wf) (hl : EntsIn w ao es) (hll : es.length ≤ 1000000000) (b : ByteArray) (hb : b.size ≤ 1000000000000) :
    Calls Try.prog 55 #[.agg #[.int .u64 ht, .int .i64 hv, .int .u64 si, .int .u64 st, .int .u64 sc, .string sd, .slice ao es.length cap], .string b] w (RTakeEnd ⟨⟨ht, hv⟩, ⟨si, st, sc, sd⟩, es⟩ b ao w) := by
  have hX := Blk.made w #[.int .u64 ht, .int .i64 hv, .int .u64 si, .int .u64 st, .int .u64 sc, .string sd, .slice ao es.length cap] 50
  have hn := (Only.refl NoBlock w).alloc (Obj.cells #[.int .u64 ht, .int .i64 hv, .int .u64 si, .int .u64 st, .int .u64 sc, .string sd, .slice ao es.length cap] 50)
  have hz1 : (w.alloc (Obj.cells #[.int .u64 ht, .int .i64 hv, .int .u64 si, .int .u64 st, .int .u64 sc, .string sd, .slice ao es.length cap] 50)).heap.size = w.heap.size + 1 := by simp
  have HT : RowKit.Hid (Sto.take ⟨⟨ht, hv⟩, ⟨si, st, sc, sd⟩, es⟩ b = Sto.takeK ⟨⟨ht, hv⟩, ⟨si, st, sc, sd⟩, es⟩ (Sto.kind b) (Sto.r0 b)) := Lib.hid rfl
  have HK : RowKit.Hid (Pk.numV (nums b) = Sto.kind b) := Lib.hid rfl
  have HR0 : RowKit.Hid (Pk.numR ⟨nums b, false⟩ = Sto.r0 b) := Lib.hid rfl
  have HH := Lib.hid hh
  have HSW := Lib.hid hs
  clear hh hs
  go_enter Try.func55, Try.ntmps55
  go_upto_region 1 with fail
  generalize w.alloc (Obj.cells #[.int .u64 ht, .int .i64 hv, .int .u64 si, .int .u64 st, .int .u64 sc, .string sd, .slice ao es.length cap] 50) = w1 at hX hn hz1 ⊢
  have hR := Blk.made w1 #[.int .u64 0, .int .i64 0, .int .u64 0, .int .u64 0, .int .u64 0, .string { data := #[] }, .slice none 0 0] 50
  rw [hz1] at hR
  have hX2 := hX.alloc (Obj.cells #[.int .u64 0, .int .i64 0, .int .u64 0, .int .u64 0, .int .u64 0, .string { data := #[] }, .slice none 0 0] 50)
  have hn2 := hn.alloc (Obj.cells #[.int .u64 0, .int .i64 0, .int .u64 0, .int .u64 0, .int .u64 0, .string { data := #[] }, .slice none 0 0] 50)
  have hz2 : (w1.alloc (Obj.cells #[.int .u64 0, .int .i64 0, .int .u64 0, .int .u64 0, .int .u64 0, .string { data := #[] }, .slice none 0 0] 50)).heap.size = w.heap.size + 2 := by simp [hz1]
  generalize w1.alloc (Obj.cells #[.int .u64 0, .int .i64 0, .int .u64 0, .int .u64 0, .int .u64 0, .string { data := #[] }, .slice none 0 0] 50) = w2 at hR hX2 hn2 hz2 ⊢
  go_upto_region 2 with fail
  have hD := Blk.made w2 #[.string b, .bool false] 145
  rw [hz2] at hD
  have hX3 := hX2.alloc (Obj.cells #[.string b, .bool false] 145)
  have hR3 := hR.alloc (Obj.cells #[.string b, .bool false] 145)
  have hn3 := hn2.alloc (Obj.cells #[.string b, .bool false] 145)
  generalize w2.alloc (Obj.cells #[.string b, .bool false] 145) = w3 at hD hX3 hR3 hn3 ⊢
  clear hX hn hz1 hR hX2 hn2 hz2
  obtain ⟨X, hXe⟩ : ∃ X, w.heap.size = X := ⟨_, rfl⟩
  have hwX : w.heap.size ≤ X := by omega
  have HXE := Lib.hid hXe
  rw [hXe] at hD hX3 hR3 ⊢
  clear hXe
  have hDR : DReaderAt w3 (X + 2) ⟨nums b, false⟩ := ⟨by rw [textOf_nums]; exact hD, nums_byte b, by rw [nums_length]; exact hb⟩
  clear hD
  have hl3 := hl.keeps hn3 (fun _ _ h => h)
  go_wp2_with fail
  refine (dnumr_at w3 (X + 2) _ hDR).mono ?_
  rintro e w4 ⟨he, hD4, ho4⟩
  simp only at he
  rw [HK.out] at he
  rw [HR0.out] at hD4
  subst he
  have hX4 := hX3.keeps ho4 (by omega)
  have hR4 := hR3.keeps ho4 (by omega)
  have hn4 : Only NoBlock w w4 := hn3.andThen ho4 (fun k hk e => by have e' : k = X + 2 := e; omega)
  have hl4 := hl.keeps hn4 (fun _ _ h => h)
  clear hDR hX3 hR3 hn3 hl3 ho4
  generalize Sto.kind b = k at HT ⊢
  generalize Sto.r0 b = r at HT hD4
  go_upto_block 0 with (fail)
  by_cases hk : k = 0 ∨ 4 < k
  · have d1 : ((k : Int) == 1) = false := by simp; omega
    have d2 : ((k : Int) == 2) = false := by simp; omega
    have d3 : ((k : Int) == 3) = false := by simp; omega
    have d4 : ((k : Int) == 4) = false := by simp; omega
    have HT2 : RowKit.Hid (Sto.take ⟨⟨ht, hv⟩, ⟨si, st, sc, sd⟩, es⟩ b = none) := Lib.hid (by rw [HT.out]; unfold Sto.takeK; rw [if_neg (by omega), if_neg (by omega), if_neg (by omega), if_neg (by omega)])
    clear hk
    have x0 : w4.cell? ⟨X, 0, none⟩ = some (.int .u64 ht) := by rw [hX4.cell]; rfl
    have x1 : w4.cell? ⟨X, 1, none⟩ = some (.int .i64 hv) := by rw [hX4.cell]; rfl
    have x2 : w4.cell? ⟨X, 2, none⟩ = some (.int .u64 si) := by rw [hX4.cell]; rfl
    have x3 : w4.cell? ⟨X, 3, none⟩ = some (.int .u64 st) := by rw [hX4.cell]; rfl
    have x4 : w4.cell? ⟨X, 4, none⟩ = some (.int .u64 sc) := by rw [hX4.cell]; rfl
    have x5 : w4.cell? ⟨X, 5, none⟩ = some (.string sd) := by rw [hX4.cell]; rfl
    have x6 : w4.cell? ⟨X, 6, none⟩ = some (.slice ao es.length cap) := by rw [hX4.cell]; rfl
    have q0 : w4.cell? ⟨X + 1, 0, none⟩ = some (.int .u64 0) := by rw [hR4.cell]; rfl
    have fq0 := hR4.free 0
    have q1 : w4.cell? ⟨X + 1, 1, none⟩ = some (.int .i64 0) := by rw [hR4.cell]; rfl
    have fq1 := hR4.free 1
    have q2 : w4.cell? ⟨X + 1, 2, none⟩ = some (.int .u64 0) := by rw [hR4.cell]; rfl
    have fq2 := hR4.free 2
    have q3 : w4.cell? ⟨X + 1, 3, none⟩ = some (.int .u64 0) := by rw [hR4.cell]; rfl
    have fq3 := hR4.free 3
    have q4 : w4.cell? ⟨X + 1, 4, none⟩ = some (.int .u64 0) := by rw [hR4.cell]; rfl
    have fq4 := hR4.free 4
    have q5 : w4.cell? ⟨X + 1, 5, none⟩ = some (.string { data := #[] }) := by rw [hR4.cell]; rfl
    have fq5 := hR4.free 5
    have q6 : w4.cell? ⟨X + 1, 6, none⟩ = some (.slice none 0 0) := by rw [hR4.cell]; rfl
    have fq6 := hR4.free 6
    go_wp2_with fail
    obtain ⟨fs, hfs⟩ := u_rstate
    have hV := vset_blk8 hR4 (.int .u64 ht) (.int .i64 hv) (.int .u64 si) (.int .u64 st) (.int .u64 sc) (.string sd) (.slice ao es.length cap)
    have hvo := vset_only w4 (X + 1) (.int .u64 ht) (.int .i64 hv) (.int .u64 si) (.int .u64 st) (.int .u64 sc) (.string sd) (.slice ao es.length cap)
    have hn5 := hn4.andThen hvo (fun k hk e => by have e' : k = X + 1 := e; omega)
    have hl5 := hl.keeps hn5 (fun _ _ h => h)
    (try simp only [Exit.inBlock, Exit.then])
    refine bodyPost_ret (results_cell_tmp (P := Try.prog) rfl _ _ (X + 1) _ _ _ _ rfl hV hfs rfl size_rstate) rfl ?_
    exact ⟨false, ⟨⟨ht, hv⟩, ⟨si, st, sc, sd⟩, es⟩, ao, cap, rfl, hl5, hn5, HT2.out, HH.out, HSW.out, by simp, Far.same _ _⟩
  · go_cut [] (fun wx => TkEnd w wx X ⟨⟨ht, hv⟩, ⟨si, st, sc, sd⟩, es⟩ b ao)
    case first =>
      have hk4 : TkAt w w4 X #[.int .u64 ht, .int .i64 hv, .int .u64 si, .int .u64 st, .int .u64 sc, .string sd, .slice ao es.length cap] r := ⟨hX4, hR4, hD4, hn4, hwX⟩
      clear hX4 hR4 hD4 hn4
      by_cases k1 : k = 1
      · subst k1
        unfold Sto.takeK at HT
        rw [if_pos rfl] at HT
        go_wp2_with fail
        refine (dnumr_at w4 (X + 2) _ hk4.rd).mono ?_
        rintro e w5 ⟨rfl, hD5, ho5⟩
        have hv5 := Pk.numV_lt hk4.rd.2.1
        have hk5 := hk4.read ho5 hD5
        have HVD : RowKit.Hid (Sto.hardV r = ⟨Pk.numV r.s, (((Pk.numR r).up 7).1 : Int) - 1⟩) := Lib.hid rfl
        have HRD : RowKit.Hid (Sto.hardR r = ((Pk.numR r).up 7).2) := Lib.hid rfl
        generalize Pk.numV r.s = x at HVD hv5 ⊢
        clear hk4 ho5 hD5 hl4
        have f0 := hk5.st.free 0
        have x0 : w5.cell? ⟨X, 0, none⟩ = some (.int .u64 ht) := by rw [hk5.st.cell]; rfl
        go_upto_region 7 with fail
        have hk6 := hk5.set 0 (.int .u64 x)
        generalize w5.setCell ⟨X, 0, none⟩ (.int .u64 x) = w6 at hk6 ⊢
        clear hk5 f0 x0
        go_wp2_with fail
        refine (dup_at w6 (X + 2) _ hk6.rd 7 (by omega)).mono ?_
        rintro e w7 ⟨rfl, hD7, ho7⟩
        have hle := Sto.up_le (Pk.numR r) 7
        have hk7 := hk6.read ho7 hD7
        rw [← HRD.out] at hk7
        generalize ((Pk.numR r).up 7).1 = u at hle HVD ⊢
        clear hk6 ho7 hD7 HRD
        have hk7' : TkAt w w7 X (stCells ⟨x, hv⟩ ⟨si, st, sc, sd⟩ (.slice ao es.length cap)) (Sto.hardR r) := hk7
        have f1 := hk7'.st.free 1
        have x1 : w7.cell? ⟨X, 1, none⟩ = some (.int .i64 hv) := by rw [hk7'.st.cell]; rfl
        go_wp2_with fail
        go_meet
        have hk8 := hk7'.set 1 (.int .i64 ((u : Int) - 1))
        exact ⟨⟨⟨x, (u : Int) - 1⟩, ⟨si, st, sc, sd⟩, es⟩, ao, cap, Sto.hardR r, hk8, hl.keeps hk8.no (fun _ _ h => h), Lib.hid (fun wy ho => hl.keeps (hk8.no.andThen ho (fun k hk e => by have e' : k = X + 1 := e; omega)) (fun _ _ h => h)), Lib.hid (by rw [HT.out, HVD.out]), ⟨hv5, WalkArith.wf_i64 (n := (u : Int) - 1) ⟨by omega, by omega⟩⟩, HSW.out, by simp, Far.same _ _⟩
      · by_cases k2 : k = 2
        · subst k2
          unfold Sto.takeK at HT
          rw [if_neg (by decide), if_pos rfl] at HT
          clear k1
          go_wp2_with fail
          refine (dnumr_at w4 (X + 2) _ hk4.rd).mono ?_
          rintro e w5 ⟨rfl, hD5, ho5⟩
          have hv5 := Pk.numV_lt hk4.rd.2.1
          have hk5 := hk4.read ho5 hD5
          have HVD : RowKit.Hid (Sto.entV r = ⟨Pk.numV r.s, Pk.numV (Pk.numR r).s, (((Pk.numR (Pk.numR r)).up 2).1 : Nat), textOf ((Sto.entR r).text 65536).1⟩) := Lib.hid rfl
          have HRD : RowKit.Hid (((Pk.numR (Pk.numR r)).up 2).2 = Sto.entR r) := Lib.hid rfl
          generalize Pk.numV r.s = x at HVD hv5 ⊢
          clear hk4 ho5 hD5 hl4
          go_upto_region 10 with fail
          have hE := Blk.made w5 #[.int .u64 x, .int .u64 0, .int .i64 0, .string { data := #[] }] 77
          have hA := (Only.refl NoBlock w5).alloc (Obj.cells #[.int .u64 x, .int .u64 0, .int .i64 0, .string { data := #[] }] 77)
          have hXE : X + 2 < w5.heap.size := hk5.rd.1.lt
          have hk6 := hk5.keeps hA (fun _ h => h.elim)
          generalize w5.heap.size = E at hE hXE ⊢
          generalize w5.alloc (Obj.cells #[.int .u64 x, .int .u64 0, .int .i64 0, .string { data := #[] }] 77) = w6 at hE hk6 ⊢
          clear hk5 hA
          go_wp2_with fail
          refine (dnumr_at w6 (X + 2) _ hk6.rd).mono ?_
          rintro e w7 ⟨rfl, hD7, ho7⟩
          have hv7 := Pk.numV_lt hk6.rd.2.1
          have hk7 := hk6.read ho7 hD7
          have hE7 := hE.keeps ho7 (by omega)
          generalize Pk.numV (Pk.numR r).s = y at HVD hv7 ⊢
          clear hk6 ho7 hD7 hE
          have fe := hE7.free 1
          have e1 : w7.cell? ⟨E, 1, none⟩ = some (.int .u64 0) := by rw [hE7.cell]; rfl
          go_upto_region 11 with fail
          have hE8 : Blk _ E #[.int .u64 x, .int .u64 y, .int .i64 0, .string { data := #[] }] 77 := hE7.setCell 1 (.int .u64 y)
          have hk8 := hk7.keeps ((Only.refl (fun k => k = E) w7).setCell (p := ⟨E, 1, none⟩) (fun _ => rfl) (.int .u64 y)) (fun k e => by omega)
          generalize w7.setCell ⟨E, 1, none⟩ (.int .u64 y) = w8 at hE8 hk8 ⊢
          clear hE7 hk7 fe e1
          go_wp2_with fail
          refine (dup_at w8 (X + 2) _ hk8.rd 2 (by omega)).mono ?_
          rintro e w9 ⟨rfl, hD9, ho9⟩
          have hle := Sto.up_le (Pk.numR (Pk.numR r)) 2
          have hk9 := hk8.read ho9 hD9
          rw [HRD.out] at hk9
          have hE9 := hE8.keeps ho9 (by omega)
          generalize ((Pk.numR (Pk.numR r)).up 2).1 = u at hle HVD ⊢
          clear hk8 ho9 hD9 hE8 HRD
          have fe := hE9.free 2
          have e2 : w9.cell? ⟨E, 2, none⟩ = some (.int .i64 0) := by rw [hE9.cell]; rfl
          go_upto_region 12 with fail
          have hE10 : Blk _ E #[.int .u64 x, .int .u64 y, .int .i64 (u : Int), .string { data := #[] }] 77 := hE9.setCell 2 (.int .i64 (u : Int))
          have hk10 := hk9.keeps ((Only.refl (fun k => k = E) w9).setCell (p := ⟨E, 2, none⟩) (fun _ => rfl) (.int .i64 (u : Int))) (fun k e => by omega)
          generalize w9.setCell ⟨E, 2, none⟩ (.int .i64 (u : Int)) = w10 at hE10 hk10 ⊢
          clear hE9 hk9 fe e2
          go_wp2_with fail
          refine (dtextr_at w10 (X + 2) _ hk10.rd 65536 (by omega)).mono ?_
          rintro e w11 ⟨rfl, hD11, ho11⟩
          have hle2 : (textOf ((Sto.entR r).text 65536).1).size ≤ 65536 := by rw [textOf_size]; exact Sto.text_le _ _
          have hk11 := hk10.read ho11 hD11
          have hE11 := hE10.keeps ho11 (by omega)
          generalize textOf ((Sto.entR r).text 65536).1 = d at hle2 HVD ⊢
          generalize ((Sto.entR r).text 65536).2 = r4 at HT hk11
          clear hk10 ho11 hD11 hE10
          have fe := hE11.free 3
          have e3 : w11.cell? ⟨E, 3, none⟩ = some (.string { data := #[] }) := by rw [hE11.cell]; rfl
          go_upto_region 13 with fail
          have hE12 : Blk _ E #[.int .u64 x, .int .u64 y, .int .i64 (u : Int), .string d] 77 := hE11.setCell 3 (.string d)
          have hk12 := hk11.keeps ((Only.refl (fun k => k = E) w11).setCell (p := ⟨E, 3, none⟩) (fun _ => rfl) (.string d)) (fun k e => by omega)
          generalize w11.setCell ⟨E, 3, none⟩ (.string d) = w12 at hE12 hk12 ⊢
          clear hE11 hk11 fe e3
          have hwf : Ent.Wf ⟨x, y, (u : Int), d⟩ := ⟨hv5, hv7, WalkArith.wf_i64 (n := (u : Int)) ⟨by omega, by omega⟩, Nat.le_trans hle2 (by decide)⟩
          have e0 : w12.cell? ⟨E, 0, none⟩ = some (.int .u64 x) := by rw [hE12.cell]; rfl
          have e1 : w12.cell? ⟨E, 1, none⟩ = some (.int .u64 y) := by rw [hE12.cell]; rfl
          have e2 : w12.cell? ⟨E, 2, none⟩ = some (.int .i64 (u : Int)) := by rw [hE12.cell]; rfl
          have e3 : w12.cell? ⟨E, 3, none⟩ = some (.string d) := by rw [hE12.cell]; rfl
          have x6 : w12.cell? ⟨X, 6, none⟩ = some (.slice ao es.length cap) := by rw [hk12.st.cell]; rfl
          have hI := hl.keeps hk12.no (fun _ _ h => h)
          have hO1 : Only NoBlock w12 w12.drew := (Only.refl NoBlock w12).drew
          have hO2 : Only NoBlock w12 (w12.alloc (Obj.cells #[.int .u64 x, .int .u64 y, .int .i64 (u : Int), .string d] 77)).drew := ((Only.refl NoBlock w12).alloc _).drew
          have hI1 := hI.keeps hO1 (fun _ _ h => h)
          have hI2 := hI.keeps hO2 (fun _ _ h => h)
          have hk12a := hk12.keeps hO1 (fun _ h => h.elim)
          have hk12b := hk12.keeps hO2 (fun _ h => h.elim)
          have hE12a := hE12.keeps hO1 (fun h => h)
          have hE12b := hE12.keeps hO2 (fun h => h)
          have hF12b := Blk.drew (Blk.made w12 #[.int .u64 x, .int .u64 y, .int .i64 (u : Int), .string d] 77)
          have hzw := hk12.no.size
          have hXF : X + 2 < w12.heap.size := hk12.rd.1.lt
          have hk12c := hk12.keeps ((Only.refl NoBlock w12).alloc (Obj.cells #[.int .u64 x, .int .u64 y, .int .i64 (u : Int), .string d] 77)) (fun _ h => h.elim)
          have g6 : (w12.alloc (Obj.cells #[.int .u64 x, .int .u64 y, .int .i64 (u : Int), .string d] 77)).cell? ⟨X, 6, none⟩ = some (.slice ao es.length cap) := by rw [hk12c.st.cell]; rfl
          have n6 := World.new_ne w12 ⟨X, 6, none⟩ x6
          have nE := World.new_ne w12 ⟨E, 0, none⟩ e0
          go_region_law (first
            | ((refine step_append_ents _ rfl _ _ rfl w.heap.size (.slice none 0 0) [] es _ _ _ rfl (Ents.nil _ _) rfl rfl (by with_reducible exact hI1) ?_ ?_ ?_; (simp; omega); (simp; omega); intro v13 w13 he13 hg13 hv13; simp only [List.nil_append] at he13; obtain ⟨ao13, cap13, rfl⟩ := he13.shape; have hk13 := hk12a.keeps (Only.of_grown hg13) (fun k e => by cases e); have hE13 := hE12a.keeps (Only.of_grown hg13) (fun e => by cases e)
                have z0 : w13.cell? ⟨E, 0, none⟩ = some (.int .u64 x) := by rw [hE13.cell]; rfl
                have z1 : w13.cell? ⟨E, 1, none⟩ = some (.int .u64 y) := by rw [hE13.cell]; rfl
                have z2 : w13.cell? ⟨E, 2, none⟩ = some (.int .i64 (u : Int)) := by rw [hE13.cell]; rfl
                have z3 : w13.cell? ⟨E, 3, none⟩ = some (.string d) := by rw [hE13.cell]; rfl
                have xx6 : w13.cell? ⟨X, 6, none⟩ = some (.slice ao es.length cap) := by rw [hk13.st.cell]; rfl
                have n13 := World.new_ne w13 ⟨X, 6, none⟩ xx6
                have m13 := World.new_ne w13 ⟨E, 0, none⟩ z0))
            | ((refine step_append_ents _ rfl _ _ rfl w.heap.size (.slice none 0 0) [] es _ _ _ rfl (Ents.nil _ _) rfl rfl (by with_reducible exact hI2) ?_ ?_ ?_; (simp; omega); (simp; omega); intro v13 w13 he13 hg13 hv13; simp only [List.nil_append] at he13; obtain ⟨ao13, cap13, rfl⟩ := he13.shape; have hk13 := hk12b.keeps (Only.of_grown hg13) (fun k e => by cases e); have hE13 := hE12b.keeps (Only.of_grown hg13) (fun e => by cases e)
                have z0 : w13.cell? ⟨E, 0, none⟩ = some (.int .u64 x) := by rw [hE13.cell]; rfl
                have z1 : w13.cell? ⟨E, 1, none⟩ = some (.int .u64 y) := by rw [hE13.cell]; rfl
                have z2 : w13.cell? ⟨E, 2, none⟩ = some (.int .i64 (u : Int)) := by rw [hE13.cell]; rfl
                have z3 : w13.cell? ⟨E, 3, none⟩ = some (.string d) := by rw [hE13.cell]; rfl
                have xx6 : w13.cell? ⟨X, 6, none⟩ = some (.slice ao es.length cap) := by rw [hk13.st.cell]; rfl
                have hF13 := hF12b.keeps (Only.of_grown hg13) (fun e => by cases e)
                have y0 : w13.cell? ⟨w12.heap.size, 0, none⟩ = some (.int .u64 x) := by rw [hF13.cell]; rfl
                have y1 : w13.cell? ⟨w12.heap.size, 1, none⟩ = some (.int .u64 y) := by rw [hF13.cell]; rfl
                have y2 : w13.cell? ⟨w12.heap.size, 2, none⟩ = some (.int .i64 (u : Int)) := by rw [hF13.cell]; rfl
                have y3 : w13.cell? ⟨w12.heap.size, 3, none⟩ = some (.string d) := by rw [hF13.cell]; rfl))
            | ((refine step_append_entw _ rfl _ _ rfl w.heap.size (.slice ao13 es.length cap13) es ⟨x, y, (u : Int), d⟩ hwf w13.heap.size 1 rfl (by with_reducible exact (he13.keeps ((Only.refl NoBlock w13).alloc (Obj.cells #[.int .u64 x, .int .u64 y, .int .i64 (u : Int), .string d] 77)) (fun _ _ h => h))) rfl (by exact (ent_made w13 ⟨x, y, (u : Int), d⟩ _).1) (by exact (ent_made w13 ⟨x, y, (u : Int), d⟩ _).2.1) (by exact (ent_made w13 ⟨x, y, (u : Int), d⟩ _).2.2.1) (by exact (ent_made w13 ⟨x, y, (u : Int), d⟩ _).2.2.2) ?_ ?_ ?_; omega; (have := hk13.no.size; simp; try omega); intro v14 w14 he14 hg14 hv14; have hk14 := (hk13.keeps ((Only.refl NoBlock w13).alloc (Obj.cells #[.int .u64 x, .int .u64 y, .int .i64 (u : Int), .string d] 77)) (fun _ h => h.elim)).keeps (Only.of_grown hg14) (fun k e => row_far he13 hk13 HXE.out rfl e); obtain ⟨ao14, cap14, rfl⟩ := he14.shape
                have x14 : w14.cell? ⟨X, 6, none⟩ = some (.slice ao es.length cap) := by rw [hk14.st.cell]; rfl
                have f14 := hk14.st.free 6))
            | ((refine step_append_entw _ rfl _ _ rfl w.heap.size (.slice ao13 es.length cap13) es ⟨x, y, (u : Int), d⟩ hwf w12.heap.size 1 rfl (by with_reducible exact he13) rfl (by exact y0) (by exact y1) (by exact y2) (by exact y3) ?_ ?_ ?_; omega; (have := hk13.no.size; simp; try omega); intro v14 w14 he14 hg14 hv14; have hk14 := (hk13).keeps (Only.of_grown hg14) (fun k e => row_far he13 hk13 HXE.out rfl e); obtain ⟨ao14, cap14, rfl⟩ := he14.shape
                have x14 : w14.cell? ⟨X, 6, none⟩ = some (.slice ao es.length cap) := by rw [hk14.st.cell]; rfl
                have f14 := hk14.st.free 6)))
          all_goals
            have hk15 := hk14.set 6 (.slice ao14 (es.length + 1) cap14)
            have he15 := he14.keeps ((Only.refl (fun k => k = X) w14).setCell (p := ⟨X, 6, none⟩) (fun _ => rfl) (.slice ao14 (es.length + 1) cap14)) (fun k hk e => by have := row_far he14 hk14 HXE.out rfl hk; have e' : k = X := e; omega)
            have hin15 := (he15.read (by simp; omega)).1
            have hlen : (es ++ [(⟨x, y, (u : Int), d⟩ : Ent)]).length = es.length + 1 := by simp
            have hk16 : TkAt w (w14.setCell ⟨X, 6, none⟩ (.slice ao14 (es.length + 1) cap14)) X (stCells ⟨ht, hv⟩ ⟨si, st, sc, sd⟩ (.slice ao14 (es ++ [(⟨x, y, (u : Int), d⟩ : Ent)]).length cap14)) r4 := by rw [hlen]; exact hk15
            have HLAST : TkEnd w (w14.setCell ⟨X, 6, none⟩ (.slice ao14 (es.length + 1) cap14)) X ⟨⟨ht, hv⟩, ⟨si, st, sc, sd⟩, es⟩ b ao := ⟨⟨⟨ht, hv⟩, ⟨si, st, sc, sd⟩, es ++ [⟨x, y, (u : Int), d⟩]⟩, ao14, cap14, r4, hk16, hin15, Lib.hid (fun wy ho => ((he15.keeps ho (fun k hk e => by have := row_far he14 hk14 HXE.out rfl hk; have e' : k = X + 1 := e; omega)).read (by simp; omega)).1), Lib.hid (by rw [HT.out, HVD.out]), HH.out, HSW.out, by simp, Far.own he14 ao⟩
            have HL2 := Lib.hid HLAST
            clear HLAST hk16 hk15 he15 hin15 hk14 he14 hlen
            go_wp2_with fail
            go_meet
            exact HL2.out
        · by_cases k3 : k = 3
          · subst k3
            unfold Sto.takeK at HT
            rw [if_neg (by decide), if_neg (by decide), if_pos rfl] at HT
            clear k1 k2
            go_wp2_with fail
            refine (dnumr_at w4 (X + 2) _ hk4.rd).mono ?_
            rintro e w5 ⟨rfl, hD5, ho5⟩
            have hv5 := Pk.numV_lt hk4.rd.2.1
            have hk5 := hk4.read ho5 hD5
            generalize Pk.numV r.s = x at HT hv5 ⊢
            generalize Pk.numR r = r4 at HT hk5
            clear hk4 ho5 hD5 hl4
            go_wp2_with fail
            go_loopw [10, 11] (fun u10 u11 wr => ∃ j : Nat, j ≤ es.length ∧ u11 = .int .i64 j ∧ Ents wr w.heap.size u10 (es.take j) ∧ RowKit.Hid (∀ i, i < j → (es.getD i Ent.zero).index < x) ∧ TkAt w wr X #[.int .u64 ht, .int .i64 hv, .int .u64 si, .int .u64 st, .int .u64 sc, .string sd, .slice ao es.length cap] r4) (fun _ u11 _ => es.length - (intOf u11).toNat)
            case atStart => exact ⟨0, by omega, rfl, Ents.nil _ _, Lib.hid (fun i hi => by omega), hk5⟩
            case round =>
              clear hk5
              obtain ⟨j, hj, rfl, hE, HJ, hk6⟩ := hrel
              have hlj : (es.take j).length = j := by rw [List.length_take]; omega
              obtain ⟨ao6, cap6, rfl⟩ := hE.shape
              have x6 : wr.cell? ⟨X, 6, none⟩ = some (.slice ao es.length cap) := by rw [hk6.st.cell]; rfl
              have hEND : (j = es.length ∨ ¬ (es.getD j Ent.zero).index < x) → TkEnd w (wr.setCell ⟨X, 6, none⟩ (.slice ao6 (es.take j).length cap6)) X ⟨⟨ht, hv⟩, ⟨si, st, sc, sd⟩, es⟩ b ao := by
                intro hc
                have hCT := Sto.cutOff_take x es j hj HJ.out hc
                have hk7 := hk6.set 6 (.slice ao6 (es.take j).length cap6)
                have hE7 := hE.keeps ((Only.refl (fun k => k = X) wr).setCell (p := ⟨X, 6, none⟩) (fun _ => rfl) (.slice ao6 (es.take j).length cap6)) (fun k hk e => by have := row_far hE hk6 HXE.out rfl hk; have e' : k = X := e; omega)
                exact ⟨⟨⟨ht, hv⟩, ⟨si, st, sc, sd⟩, es.take j⟩, ao6, cap6, r4, hk7, (hE7.read (by rw [hlj]; omega)).1, Lib.hid (fun wy ho => ((hE7.keeps ho (fun k hk e => by have := row_far hE hk6 HXE.out rfl hk; have e' : k = X + 1 := e; omega)).read (by rw [hlj]; omega)).1), Lib.hid (by rw [HT.out, hCT]), HH.out, HSW.out, by show (es.take j).length ≤ es.length + 1; rw [hlj]; omega, Far.own hE ao⟩
              have HEND := Lib.hid hEND
              clear hEND
              have f6 := hk6.st.free 6
              by_cases hlt : j < es.length
              · obtain ⟨bb, off, rfl, e0, e1, e2, e3⟩ := (hl.keeps hk6.no (fun _ _ h => h)).cell j hlt
                have hwf := hl.at_wf hlt
                have hts := ents_take_snoc hlt
                by_cases hy : (es.getD j Ent.zero).index < x
                · have HJ2 : RowKit.Hid (∀ i, i < j + 1 → (es.getD i Ent.zero).index < x) := Lib.hid (fun i hi => by
                    by_cases hij : i < j
                    · exact HJ.out i hij
                    · obtain rfl : i = j := by omega
                      exact hy)
                  have HTS := Lib.hid hts
                  clear hts HEND
                  generalize es.getD j Ent.zero = en at e0 e1 e2 e3 hwf hy HTS
                  have hwf0 := hwf
                  obtain ⟨et, ei, ek, ed⟩ := en
                  simp only at e0 e1 e2 e3 hy
                  have d1 : decide (ei < x) = true := by simpa using hy
                  have hAe := (Only.refl NoBlock wr).alloc (Obj.cells #[.int .u64 et, .int .u64 ei, .int .i64 ek, .string ed] 77)
                  have hk7 := hk6.keeps hAe (fun _ h => h.elim)
                  have hE7 := hE.keeps hAe (fun _ _ h => h)
                  clear hy
                  have hzn := hk6.no.size
                  go_wp2_with (first
                    | (at_builtin; refine wpList_append_ent _ rfl _ _ rfl w.heap.size _ (es.take j) ⟨et, ei, ek, ed⟩ hwf0 wr.heap.size 1 rfl hE7 rfl (ent_made wr ⟨et, ei, ek, ed⟩ _).1 (ent_made wr ⟨et, ei, ek, ed⟩ _).2.1 (ent_made wr ⟨et, ei, ek, ed⟩ _).2.2.1 (ent_made wr ⟨et, ei, ek, ed⟩ _).2.2.2 (by rw [hlj]; omega) (by simp; omega) ?_; intro v8 w8 he8 hg8))
                  go_roundw
                  case rel => exact ⟨j + 1, by omega, by go_num, by rw [HTS.out]; exact he8, HJ2, hk7.keeps (Only.of_grown hg8) (fun k e => row_far hE7 hk7 HXE.out rfl e)⟩
                  case measure => simp [intOf]; omega
                · have HE2 := Lib.hid (HEND.out (.inr hy))
                  clear hts HEND
                  generalize es.getD j Ent.zero = en at e0 e1 e2 e3 hwf hy
                  obtain ⟨et, ei, ek, ed⟩ := en
                  simp only at e0 e1 e2 e3 hy
                  have d1 : decide (ei < x) = false := by simpa using hy
                  clear hy
                  rw [hlj] at HE2
                  go_wp2_with fail
                  go_meet
                  exact HE2.out
              · obtain rfl : j = es.length := by omega
                have HE2 := Lib.hid (HEND.out (.inl rfl))
                clear HEND
                rw [hlj] at HE2
                go_wp2_with fail
                go_meet
                exact HE2.out
          · have k4 : k = 4 := by omega
            subst k4
            unfold Sto.takeK at HT
            rw [if_neg (by decide), if_neg (by decide), if_neg (by decide), if_pos rfl] at HT
            clear k1 k2 k3
            have HVD : RowKit.Hid (Sto.snapV r = ⟨Pk.numV r.s, Pk.numV (Pk.numR r).s, Pk.numV (Pk.numR (Pk.numR r)).s, textOf ((Pk.numR (Pk.numR (Pk.numR r))).text 65536).1⟩) := Lib.hid rfl
            go_wp2_with fail
            refine (dnumr_at w4 (X + 2) _ hk4.rd).mono ?_
            rintro e w5 ⟨rfl, hD5, ho5⟩
            have hv5 := Pk.numV_lt hk4.rd.2.1
            have hk5 := hk4.read ho5 hD5
            generalize Pk.numV r.s = x at HVD hv5 ⊢
            clear hk4 ho5 hD5 hl4
            have f2 := hk5.st.free 2
            have x2 : w5.cell? ⟨X, 2, none⟩ = some (.int .u64 si) := by rw [hk5.st.cell]; rfl
            go_upto_region 24 with fail
            have hk6 := hk5.set 2 (.int .u64 x)
            generalize w5.setCell ⟨X, 2, none⟩ (.int .u64 x) = w6 at hk6 ⊢
            clear hk5 f2 x2
            have hk6' : TkAt w w6 X (stCells ⟨ht, hv⟩ ⟨x, st, sc, sd⟩ (.slice ao es.length cap)) (Pk.numR r) := hk6
            clear hk6
            go_wp2_with fail
            refine (dnumr_at w6 (X + 2) _ hk6'.rd).mono ?_
            rintro e w7 ⟨rfl, hD7, ho7⟩
            have hv7 := Pk.numV_lt hk6'.rd.2.1
            have hk7 := hk6'.read ho7 hD7
            generalize Pk.numV (Pk.numR r).s = y at HVD hv7 ⊢
            clear hk6' ho7 hD7
            have f3 := hk7.st.free 3
            have x3 : w7.cell? ⟨X, 3, none⟩ = some (.int .u64 st) := by rw [hk7.st.cell]; rfl
            go_upto_region 25 with fail
            have hk8 := hk7.set 3 (.int .u64 y)
            generalize w7.setCell ⟨X, 3, none⟩ (.int .u64 y) = w8 at hk8 ⊢
            clear hk7 f3 x3
            have hk8' : TkAt w w8 X (stCells ⟨ht, hv⟩ ⟨x, y, sc, sd⟩ (.slice ao es.length cap)) (Pk.numR (Pk.numR r)) := hk8
            clear hk8
            go_wp2_with fail
            refine (dnumr_at w8 (X + 2) _ hk8'.rd).mono ?_
            rintro e w9 ⟨rfl, hD9, ho9⟩
            have hv9 := Pk.numV_lt hk8'.rd.2.1
            have hk9 := hk8'.read ho9 hD9
            generalize Pk.numV (Pk.numR (Pk.numR r)).s = z at HVD hv9 ⊢
            clear hk8' ho9 hD9
            have f4 := hk9.st.free 4
            have x4 : w9.cell? ⟨X, 4, none⟩ = some (.int .u64 sc) := by rw [hk9.st.cell]; rfl
            go_upto_region 26 with fail
            have hk10 := hk9.set 4 (.int .u64 z)
            generalize w9.setCell ⟨X, 4, none⟩ (.int .u64 z) = w10 at hk10 ⊢
            clear hk9 f4 x4
            have hk10' : TkAt w w10 X (stCells ⟨ht, hv⟩ ⟨x, y, z, sd⟩ (.slice ao es.length cap)) (Pk.numR (Pk.numR (Pk.numR r))) := hk10
            clear hk10
            go_wp2_with fail
            refine (dtextr_at w10 (X + 2) _ hk10'.rd 65536 (by omega)).mono ?_
            rintro e w11 ⟨rfl, hD11, ho11⟩
            have hle2 : (textOf ((Pk.numR (Pk.numR (Pk.numR r))).text 65536).1).size ≤ 65536 := by rw [textOf_size]; exact Sto.text_le _ _
            have hk11 := hk10'.read ho11 hD11
            generalize textOf ((Pk.numR (Pk.numR (Pk.numR r))).text 65536).1 = d at hle2 HVD ⊢
            generalize ((Pk.numR (Pk.numR (Pk.numR r))).text 65536).2 = r4 at HT hk11
            clear hk10' ho11 hD11
            have f5 := hk11.st.free 5
            have x5 : w11.cell? ⟨X, 5, none⟩ = some (.string sd) := by rw [hk11.st.cell]; rfl
            go_upto_region 27 with fail
            have hk12 := hk11.set 5 (.string d)
            generalize w11.setCell ⟨X, 5, none⟩ (.string d) = w12 at hk12 ⊢
            clear hk11 f5 x5
            have hk12' : TkAt w w12 X (stCells ⟨ht, hv⟩ ⟨x, y, z, d⟩ (.slice ao es.length cap)) r4 := hk12
            clear hk12
            have f6 := hk12'.st.free 6
            have x6 : w12.cell? ⟨X, 6, none⟩ = some (.slice ao es.length cap) := by rw [hk12'.st.cell]; rfl
            go_wp2_with fail
            go_meet
            have hk13 := hk12'.set 6 (.slice none 0 0)
            exact ⟨⟨⟨ht, hv⟩, ⟨x, y, z, d⟩, []⟩, none, 0, r4, hk13, EntsIn.nil _ _, Lib.hid (fun wy ho => EntsIn.nil _ _), Lib.hid (by rw [HT.out, HVD.out]), HH.out, ⟨hv5, hv7, hv9, Nat.le_trans hle2 (by decide)⟩, by simp, Far.none _ _⟩
    case rest =>
      obtain ⟨⟨⟨ht', hv'⟩, ⟨si', st', sc', sd'⟩, es'⟩, ao', cap', r', hk5, hl5, HROW, HT5, hh5, hs5, hle5, hfar5⟩ := hcut
      have hle5' : es'.length ≤ es.length + 1 := hle5
      have hst5 := hk5.st
      simp only [stCells] at hst5
      have hl5' : EntsIn wc ao' es' := hl5
      have c0 : wc.cell? ⟨X, 0, none⟩ = some (.int .u64 ht') := by rw [hst5.cell]; rfl
      have c1 : wc.cell? ⟨X, 1, none⟩ = some (.int .i64 hv') := by rw [hst5.cell]; rfl
      have c2 : wc.cell? ⟨X, 2, none⟩ = some (.int .u64 si') := by rw [hst5.cell]; rfl
      have c3 : wc.cell? ⟨X, 3, none⟩ = some (.int .u64 st') := by rw [hst5.cell]; rfl
      have c4 : wc.cell? ⟨X, 4, none⟩ = some (.int .u64 sc') := by rw [hst5.cell]; rfl
      have c5 : wc.cell? ⟨X, 5, none⟩ = some (.string sd') := by rw [hst5.cell]; rfl
      have c6 : wc.cell? ⟨X, 6, none⟩ = some (.slice ao' es'.length cap') := by rw [hst5.cell]; rfl
      have q0 : wc.cell? ⟨X + 1, 0, none⟩ = some (.int .u64 0) := by rw [hk5.res.cell]; rfl
      have fq0 := hk5.res.free 0
      have q1 : wc.cell? ⟨X + 1, 1, none⟩ = some (.int .i64 0) := by rw [hk5.res.cell]; rfl
      have fq1 := hk5.res.free 1
      have q2 : wc.cell? ⟨X + 1, 2, none⟩ = some (.int .u64 0) := by rw [hk5.res.cell]; rfl
      have fq2 := hk5.res.free 2
      have q3 : wc.cell? ⟨X + 1, 3, none⟩ = some (.int .u64 0) := by rw [hk5.res.cell]; rfl
      have fq3 := hk5.res.free 3
      have q4 : wc.cell? ⟨X + 1, 4, none⟩ = some (.int .u64 0) := by rw [hk5.res.cell]; rfl
      have fq4 := hk5.res.free 4
      have q5 : wc.cell? ⟨X + 1, 5, none⟩ = some (.string { data := #[] }) := by rw [hk5.res.cell]; rfl
      have fq5 := hk5.res.free 5
      have q6 : wc.cell? ⟨X + 1, 6, none⟩ = some (.slice none 0 0) := by rw [hk5.res.cell]; rfl
      have fq6 := hk5.res.free 6
      obtain ⟨rs, bad⟩ := r'
      have hrd := hk5.rd.1
      simp only at hrd
      have r0 : wc.cell? ⟨X + 2, 0, none⟩ = some (.string (textOf rs)) := by rw [hrd.cell]; rfl
      have r1 : wc.cell? ⟨X + 2, 1, none⟩ = some (.bool bad) := by rw [hrd.cell]; rfl
      have hne1 : X ≠ X + 1 := by omega
      have hne2 : X + 2 ≠ X + 1 := by omega
      have HK5 := Lib.hid hk5
      clear hk5 hst5 hrd hl4 hX4 hR4 hD4 hn4
      obtain ⟨fs, hfs⟩ := u_rstate
      have HFS := Lib.hid hfs
      clear hfs
      cases bad with
      | true =>
        go_wp2_with fail
        go_region
        all_goals
          have hV := (vset_blk8 HK5.out.res (.int .u64 ht') (.int .i64 hv') (.int .u64 si') (.int .u64 st') (.int .u64 sc') (.string sd') (.slice ao' es'.length cap')).drew
          have hvo := (vset_only wc (X + 1) (.int .u64 ht') (.int .i64 hv') (.int .u64 si') (.int .u64 st') (.int .u64 sc') (.string sd') (.slice ao' es'.length cap')).drew
          have hn6 := HK5.out.no.andThen hvo (fun k hk e => by have e' : k = X + 1 := e; have := HK5.out.le; omega)
          have hl6 := HROW.out _ hvo
          go_wp2_with fail
          (try simp only [Exit.inBlock, Exit.then])
          refine bodyPost_ret (results_cell_tmp (P := Try.prog) rfl _ _ (X + 1) _ _ _ _ rfl hV HFS.out rfl size_rstate) rfl ?_
          exact ⟨false, ⟨⟨ht', hv'⟩, ⟨si', st', sc', sd'⟩, es'⟩, ao', cap', rfl, hl6, hn6, by rw [HT5.out]; simp [Pk.RD.done], hh5, hs5, hle5', hfar5⟩
      | false =>
        by_cases hs : rs = []
        · subst hs
          have he : textOf ([] : List Int) = ({ data := #[] } : ByteArray) := rfl
          rw [he] at r0
          go_wp2_with fail
          go_region
          all_goals
            have hV := (vset_blk8 HK5.out.res (.int .u64 ht') (.int .i64 hv') (.int .u64 si') (.int .u64 st') (.int .u64 sc') (.string sd') (.slice ao' es'.length cap')).drew
            have hvo := (vset_only wc (X + 1) (.int .u64 ht') (.int .i64 hv') (.int .u64 si') (.int .u64 st') (.int .u64 sc') (.string sd') (.slice ao' es'.length cap')).drew
            have hn6 := HK5.out.no.andThen hvo (fun k hk e => by have e' : k = X + 1 := e; have := HK5.out.le; omega)
            have hl6 := HROW.out _ hvo
            go_wp2_with fail
            (try simp only [Exit.inBlock, Exit.then])
            refine bodyPost_ret (results_cell_tmp (P := Try.prog) rfl _ _ (X + 1) _ _ _ _ rfl hV HFS.out rfl size_rstate) rfl ?_
            exact ⟨true, ⟨⟨ht', hv'⟩, ⟨si', st', sc', sd'⟩, es'⟩, ao', cap', rfl, hl6, hn6, by rw [HT5.out]; rfl, hh5, hs5, hle5', hfar5⟩
        · have hne := text_nee hs
          have HNE := Lib.hid hs
          clear hs
          go_wp2_with fail
          go_region
          all_goals
            have hV := (vset_blk8 HK5.out.res (.int .u64 ht') (.int .i64 hv') (.int .u64 si') (.int .u64 st') (.int .u64 sc') (.string sd') (.slice ao' es'.length cap')).drew
            have hvo := (vset_only wc (X + 1) (.int .u64 ht') (.int .i64 hv') (.int .u64 si') (.int .u64 st') (.int .u64 sc') (.string sd') (.slice ao' es'.length cap')).drew
            have hn6 := HK5.out.no.andThen hvo (fun k hk e => by have e' : k = X + 1 := e; have := HK5.out.le; omega)
            have hl6 := HROW.out _ hvo
            go_wp2_with fail
            (try simp only [Exit.inBlock, Exit.then])
            refine bodyPost_ret (results_cell_tmp (P := Try.prog) rfl _ _ (X + 1) _ _ _ _ rfl hV HFS.out rfl size_rstate) rfl ?_
            exact ⟨false, ⟨⟨ht', hv'⟩, ⟨si', st', sc', sd'⟩, es'⟩, ao', cap', rfl, hl6, hn6, by rw [HT5.out, if_neg (by cases rs with | nil => exact absurd rfl HNE.out | cons a c => simp [Pk.RD.done]), if_neg (by decide)], hh5, hs5, hle5', hfar5⟩
end Go.Proofs.Ytekmjhenhgmpgaa

/- The document's Said: what records say of a beginning. -/
namespace Go.Proofs.Ytekmjhenhgmpgaa
open Go.RowKit
set_option maxRecDepth 100000

theorem results_cell1 {P : Program} {fn : Func} {p : Tmp} {ty : TypeId} (h : fn.results = #[.cell p ty]) (tmps : Array Value) (w : World) (g : Nat) (t : TypeId) (cs : Array Value) (fr : Nat × Nat) (d : TypeDesc)
    (hp : tmps.getD p undef = .pointer (some ⟨g, 0, none⟩)) (hg : w.heap[g]? = some (.cells cs t fr))
    (hu : P.underlying ty = some d) (hd : (match d with | .struct _ | .array _ _ => true | _ => false) = true) (hi : (P.info? ty).map (·.size) = some cs.size) :
    (results fn tmps).run P w = .ok (.agg cs) w := results_cell_row h tmps w g t cs fr d hp hg hu hd hi
/-- a row of entries does not lie in a state's cells -/
theorem EntsIn.keepsS {w w' : World} {ao : Option Addr} {l : List Ent} {p : Nat} {ty : TypeId} {h : Hrd} {s : Snp} {b : Option Addr} {n c : Nat} (hl : EntsIn w ao l) (hb : Blk w p (stCells h s (.slice b n c)) ty) (ho : Only (fun k => k = p) w w') : EntsIn w' ao l := by
  by_cases he : l = []
  · subst he; exact EntsIn.nil _ _
  · refine hl.keeps ho (fun a ha e => ?_)
    obtain ⟨g, off, e0, h0, h1, h2, h3⟩ := hl.cell 0 (List.length_pos_iff.2 he)
    rw [ha] at e0
    cases e0
    have e' : g = p := e
    subst e'
    simp only [Nat.zero_mul, Nat.add_zero] at h0 h1 h2 h3
    rw [hb.cell] at h0 h1 h2 h3
    match off with
    | 0 => simp [stCells] at h1
    | 1 => simp [stCells] at h0
    | 2 => simp [stCells] at h2
    | 3 => simp [stCells] at h2
    | n + 4 => simp [stCells] at h3

set_option maxHeartbeats 1000000 in
theorem rfirst8_at (w : World) (m : Nat) : Calls Try.prog 23 #[.int .u64 m] w fun e w' => e = .returned (.agg #[.int .u64 0, .int .i64 (-1), .int .u64 0, .int .u64 0, .int .u64 m, .string { data := #[] }, .slice none 0 0]) ∧ Only NoBlock w w' := by
  have hr := Blk.made w #[.int .u64 0, .int .i64 0, .int .u64 0, .int .u64 0, .int .u64 0, .string { data := #[] }, .slice none 0 0] 50
  have hn := (Only.refl NoBlock w).alloc (Obj.cells #[.int .u64 0, .int .i64 0, .int .u64 0, .int .u64 0, .int .u64 0, .string { data := #[] }, .slice none 0 0] 50)
  go_enter Try.func23, Try.ntmps23
  go_upto_region 1 with fail
  generalize w.alloc (Obj.cells #[.int .u64 0, .int .i64 0, .int .u64 0, .int .u64 0, .int .u64 0, .string { data := #[] }, .slice none 0 0] 50) = w1 at hr hn ⊢
  obtain ⟨fs, hfs⟩ := u_rstate
  have HFS := Lib.hid hfs
  clear hfs
  have q0 : w1.cell? ⟨w.heap.size, 0, none⟩ = some (.int .u64 0) := by rw [hr.cell]; rfl
  have fq0 := hr.free 0
  have q1 : w1.cell? ⟨w.heap.size, 1, none⟩ = some (.int .i64 0) := by rw [hr.cell]; rfl
  have fq1 := hr.free 1
  have q2 : w1.cell? ⟨w.heap.size, 2, none⟩ = some (.int .u64 0) := by rw [hr.cell]; rfl
  have fq2 := hr.free 2
  have q3 : w1.cell? ⟨w.heap.size, 3, none⟩ = some (.int .u64 0) := by rw [hr.cell]; rfl
  have fq3 := hr.free 3
  have q4 : w1.cell? ⟨w.heap.size, 4, none⟩ = some (.int .u64 0) := by rw [hr.cell]; rfl
  have fq4 := hr.free 4
  have q5 : w1.cell? ⟨w.heap.size, 5, none⟩ = some (.string { data := #[] }) := by rw [hr.cell]; rfl
  have fq5 := hr.free 5
  have q6 : w1.cell? ⟨w.heap.size, 6, none⟩ = some (.slice none 0 0) := by rw [hr.cell]; rfl
  have fq6 := hr.free 6
  go_wp2_with fail
  have hV := vset_blk8 hr (.int .u64 0) (.int .i64 (-1)) (.int .u64 0) (.int .u64 0) (.int .u64 m) (.string { data := #[] }) (.slice none 0 0)
  have hvo := vset_only w1 w.heap.size (.int .u64 0) (.int .i64 (-1)) (.int .u64 0) (.int .u64 0) (.int .u64 m) (.string { data := #[] }) (.slice none 0 0)
  have hn2 := hn.andThen hvo (fun k hk e => by have e' : k = w.heap.size := e; omega)
  (try simp only [Exit.inBlock, Exit.then])
  refine bodyPost_ret (results_cell_row (P := Try.prog) rfl _ _ w.heap.size _ _ _ _ rfl hV HFS.out rfl size_rstate) rfl ?_
  exact ⟨rfl, hn2⟩

/-- what Said answers -/
def RSaidEnd (m : Nat) (l : List ByteArray) (w : World) (e : Ending) (w' : World) : Prop :=
  ∃ (ok : Bool) (s' : St) (ao : Option Addr) (cap : Nat), e = .returned (.tuple #[.agg (stCells s'.hard s'.snap (.slice ao s'.es.length cap)), .bool ok]) ∧ EntsIn w' ao s'.es ∧ Only NoBlock w w' ∧ Sto.rightO (Sto.said (Sto.first m) l) = (if ok = true then some s' else none) ∧ s'.hard.Wf ∧ s'.snap.Wf ∧ s'.es.length ≤ l.length ∧ Far w.heap.size none ao

namespace Sto
theorem take_dat {s s' : St} {b : ByteArray} (h : take s b = some s') (hw : ∀ e ∈ s.es, e.data.size ≤ 65536) : ∀ e ∈ s'.es, e.data.size ≤ 65536 := by
  unfold take takeK at h
  repeat' split at h
  all_goals first
    | cases h; done
    | (cases h; exact hw)
    | skip
  · cases h
    intro e he
    rcases List.mem_append.1 he with he | he
    · exact hw e he
    · simp only [List.mem_singleton] at he
      subst he
      have ht := text_le (entR (r0 b)) 65536
      show (textOf _).size ≤ _
      rw [textOf_size]; exact ht
  · cases h
    intro e he
    exact hw e ((List.takeWhile_sublist _).subset he)
  · cases h
    intro e he
    cases he
theorem said_dat : ∀ (l : List ByteArray) (s s' : St), said s l = some s' → (∀ e ∈ s.es, e.data.size ≤ 65536) → ∀ e ∈ s'.es, e.data.size ≤ 65536
  | [], s, s', h, hw => by cases h; exact hw
  | c :: l, s, s', h, hw => by
    unfold said at h
    cases hc : take s c with
    | none => rw [hc] at h; cases h
    | some s1 =>
      rw [hc] at h
      exact said_dat l s1 s' h (take_dat hc hw)
end Sto
theorem cell_keep {w w' : World} {b off : Nat} {v : Value} (ho : Only NoBlock w w') (hc : w.cell? ⟨b, off, none⟩ = some v) : w'.cell? ⟨b, off, none⟩ = some v := by
  have hlt : b < w.heap.size := World.block_lt_of_cell? w _ hc
  have hb := ho.block b hlt (fun h => h)
  rw [← hc]
  simp [World.cell?, hb]

set_option maxHeartbeats 4000000 in
theorem rsaid8_at (w : World) (m : Nat) (hm : m < 18446744073709551616) (ao0 : Option Addr) (cap0 : Nat) (l : List ByteArray) (hl : StrsIn w ao0 l) (hll : l.length ≤ 2000000) (hb : ∀ b ∈ l, b.size ≤ 1000000000000) :
    Calls Try.prog 43 #[.int .u64 m, .slice ao0 l.length cap0] w (RSaidEnd m l w) := by
  have hr := Blk.made w #[.int .u64 0, .int .i64 0, .int .u64 0, .int .u64 0, .int .u64 0, .string { data := #[] }, .slice none 0 0] 50
  have hn := (Only.refl NoBlock w).alloc (Obj.cells #[.int .u64 0, .int .i64 0, .int .u64 0, .int .u64 0, .int .u64 0, .string { data := #[] }, .slice none 0 0] 50)
  go_enter Try.func43, Try.ntmps43
  go_upto_region 1 with fail
  obtain ⟨R, hR⟩ : ∃ R, w.heap.size = R := ⟨_, rfl⟩
  have hwR : w.heap.size ≤ R := by omega
  rw [hR] at hr ⊢
  clear hR
  generalize w.alloc (Obj.cells #[.int .u64 0, .int .i64 0, .int .u64 0, .int .u64 0, .int .u64 0, .string { data := #[] }, .slice none 0 0] 50) = w1 at hr hn ⊢
  go_wp2_with fail
  refine (rfirst8_at w1 m).mono ?_
  rintro e w2 ⟨rfl, ho2⟩
  have hr2 := hr.keeps ho2 (fun h => h)
  have hn2 := hn.trans ho2
  clear hr hn ho2
  go_upto_region 2 with fail
  have hS := Blk.made w2 #[.int .u64 0, .int .i64 (-1), .int .u64 0, .int .u64 0, .int .u64 m, .string { data := #[] }, .slice none 0 0] 50
  have hA := (Only.refl NoBlock w2).alloc (Obj.cells #[.int .u64 0, .int .i64 (-1), .int .u64 0, .int .u64 0, .int .u64 m, .string { data := #[] }, .slice none 0 0] 50)
  have hRS : R < w2.heap.size := hr2.lt
  have hr3 := hr2.keeps hA (fun h => h)
  have hn3 := hn2.trans hA
  generalize w2.heap.size = S at hS hRS ⊢
  generalize w2.alloc (Obj.cells #[.int .u64 0, .int .i64 (-1), .int .u64 0, .int .u64 0, .int .u64 m, .string { data := #[] }, .slice none 0 0] 50) = w3 at hS hr3 hn3 ⊢
  clear hA hr2 hn2
  have hS3 : Blk w3 S (stCells (Sto.first m).hard (Sto.first m).snap (.slice none (Sto.first m).es.length 0)) 50 := hS
  go_wp2_with fail
  go_loopw [7] (fun u7 wr => ∃ (k : Nat) (s : St) (ao : Option Addr) (cap : Nat), k ≤ l.length ∧ u7 = .int .i64 k ∧ RowKit.Hid (Sto.said (Sto.first m) (l.take k) = some s) ∧ Blk wr S (stCells s.hard s.snap (.slice ao s.es.length cap)) 50 ∧ EntsIn wr ao s.es ∧ Blk wr R #[.int .u64 0, .int .i64 0, .int .u64 0, .int .u64 0, .int .u64 0, .string { data := #[] }, .slice none 0 0] 50 ∧ Only NoBlock w wr ∧ s.hard.Wf ∧ s.snap.Wf ∧ s.es.length ≤ k ∧ Far w.heap.size none ao) (fun u7 _ => l.length - (intOf u7).toNat)
  case atStart => exact ⟨0, Sto.first m, none, 0, by omega, rfl, Lib.hid rfl, hS3, EntsIn.nil _ _, hr3, hn3, ⟨by show (0 : Nat) < 18446744073709551616; decide, WalkArith.wf_i64 (n := -1) ⟨by decide, by decide⟩⟩, ⟨by show (0 : Nat) < 18446744073709551616; decide, by show (0 : Nat) < 18446744073709551616; decide, hm, by show (0 : Nat) ≤ 140737488351232; decide⟩, Nat.le_refl 0, Far.none _ _⟩
  case round =>
    clear hS hS3 hr3 hn3
    obtain ⟨k, s, ao, cap, hk, rfl, HS, hS4, hl4, hr4, hn4, hh4, hs4, hle4, hfar4⟩ := hrel
    obtain ⟨⟨ht, hv⟩, ⟨si, st, sc, sd⟩, es⟩ := s
    have hle4' : es.length ≤ k := hle4
    have hl4' : EntsIn wr ao es := hl4
    have hS5 := hS4
    simp only [stCells] at hS5
    obtain ⟨fs, hfs⟩ := u_rstate
    have HFS := Lib.hid hfs
    clear hfs hle4 hl4
    have c0 : wr.cell? ⟨S, 0, none⟩ = some (.int .u64 ht) := by rw [hS5.cell]; rfl
    have c1 : wr.cell? ⟨S, 1, none⟩ = some (.int .i64 hv) := by rw [hS5.cell]; rfl
    have c2 : wr.cell? ⟨S, 2, none⟩ = some (.int .u64 si) := by rw [hS5.cell]; rfl
    have c3 : wr.cell? ⟨S, 3, none⟩ = some (.int .u64 st) := by rw [hS5.cell]; rfl
    have c4 : wr.cell? ⟨S, 4, none⟩ = some (.int .u64 sc) := by rw [hS5.cell]; rfl
    have c5 : wr.cell? ⟨S, 5, none⟩ = some (.string sd) := by rw [hS5.cell]; rfl
    have c6 : wr.cell? ⟨S, 6, none⟩ = some (.slice ao es.length cap) := by rw [hS5.cell]; rfl
    by_cases hlt : k < l.length
    · obtain ⟨bz, oz, rfl, cz0⟩ := (hl.keeps hn4 (fun _ _ h => h)).at hlt
      have hbk : (l.getD k ByteArray.empty).size ≤ 1000000000000 := by
        rw [List.getD_eq_getElem?_getD, List.getElem?_eq_getElem hlt]
        exact hb _ (List.getElem_mem hlt)
      have hts := Wal.take_snoc hlt
      have hsn := Sto.said_snoc (l.take k) (Sto.first m) (l.getD k ByteArray.empty)
      rw [← hts, HS.out] at hsn
      have HSN := Lib.hid hsn
      clear hsn hts
      generalize l.getD k ByteArray.empty = bk at cz0 hbk HSN
      have nS := World.new_ne wr ⟨S, 0, none⟩ c0
      have nZ := World.new_ne wr ⟨bz, oz + k, none⟩ cz0
      have hO1 : Only NoBlock wr wr.drew := (Only.refl NoBlock wr).drew
      have hO2 : Only NoBlock wr (wr.alloc (Obj.cells #[.int .u64 0, .int .i64 0, .int .u64 0, .int .u64 0, .int .u64 0, .string { data := #[] }, .slice none 0 0] 50)).drew := ((Only.refl NoBlock wr).alloc _).drew
      have hI1 := hl4'.keeps hO1 (fun _ _ h => h)
      have hI2 := hl4'.keeps hO2 (fun _ _ h => h)
      have hT2 := Blk.drew (Blk.made wr #[.int .u64 0, .int .i64 0, .int .u64 0, .int .u64 0, .int .u64 0, .string { data := #[] }, .slice none 0 0] 50)
      go_wp2_with fail
      go_region_held3 (fun w' => w'.cell? ⟨S, 0, none⟩ = some (.int .u64 ht) ∧ w'.cell? ⟨S, 1, none⟩ = some (.int .i64 hv) ∧ w'.cell? ⟨S, 2, none⟩ = some (.int .u64 si) ∧ w'.cell? ⟨S, 3, none⟩ = some (.int .u64 st) ∧ w'.cell? ⟨S, 4, none⟩ = some (.int .u64 sc) ∧ w'.cell? ⟨S, 5, none⟩ = some (.string sd) ∧ w'.cell? ⟨S, 6, none⟩ = some (.slice ao es.length cap) ∧ w'.cell? ⟨bz, oz + k, none⟩ = some (.string bk))
        (first | with_reducible exact ⟨c0, c1, c2, c3, c4, c5, c6, cz0⟩ | go_keep)
         ((go_at_call 55; refine (rtake_raw _ ht hv si st sc sd es ao cap hh4 hs4 (by first | with_reducible exact hI1 | with_reducible exact hI2) (by omega) bk hbk).mono ?_; rintro e w7 ⟨ok, ⟨⟨ht', hv'⟩, ⟨si', st', sc', sd'⟩, es'⟩, ao', cap', rfl, hl7, hO7, HT7, hh7, hs7, hle7, hfar7⟩; (try (with_reducible have hg7 : Only NoBlock wr.drew w7 := hO7)); (first | (clear hg7) | have hT7 := hT2.keeps hO7 (fun h => h)); have hO47 : Only NoBlock wr w7 := Only.trans (by first | with_reducible exact hO1 | with_reducible exact hO2) hO7; have hS7 := hS5.keeps hO47 (fun h => h); have hr7 := hr4.keeps hO47 (fun h => h)
           simp only [stCells]
           have hfar8 : Far w.heap.size none ao' := hfar4.trans hfar7 (by first | with_reducible exact Nat.le_trans hn4.size hO1.size | with_reducible exact Nat.le_trans hn4.size hO2.size)
           have hw7 : Only NoBlock w w7 := hn4.trans hO47
           have hc7 := cell_keep hO47 cz0
           have c0 : w7.cell? ⟨S, 0, none⟩ = some (.int .u64 ht) := by rw [hS7.cell]; rfl
           have c1 : w7.cell? ⟨S, 1, none⟩ = some (.int .i64 hv) := by rw [hS7.cell]; rfl
           have c2 : w7.cell? ⟨S, 2, none⟩ = some (.int .u64 si) := by rw [hS7.cell]; rfl
           have c3 : w7.cell? ⟨S, 3, none⟩ = some (.int .u64 st) := by rw [hS7.cell]; rfl
           have c4 : w7.cell? ⟨S, 4, none⟩ = some (.int .u64 sc) := by rw [hS7.cell]; rfl
           have c5 : w7.cell? ⟨S, 5, none⟩ = some (.string sd) := by rw [hS7.cell]; rfl
           have c6 : w7.cell? ⟨S, 6, none⟩ = some (.slice ao es.length cap) := by rw [hS7.cell]; rfl
           have cz0 := hc7
           have hz7 := Blk.made w7 #[.int .u64 0, .int .i64 0, .int .u64 0, .int .u64 0, .int .u64 0, .string { data := #[] }, .slice none 0 0] 50
           have y0 : (w7.alloc (Obj.cells #[.int .u64 0, .int .i64 0, .int .u64 0, .int .u64 0, .int .u64 0, .string { data := #[] }, .slice none 0 0] 50)).cell? ⟨w7.heap.size, 0, none⟩ = some (.int .u64 0) := by rw [hz7.cell]; rfl
           have fy0 := hz7.free 0
           have y1 : (w7.alloc (Obj.cells #[.int .u64 0, .int .i64 0, .int .u64 0, .int .u64 0, .int .u64 0, .string { data := #[] }, .slice none 0 0] 50)).cell? ⟨w7.heap.size, 1, none⟩ = some (.int .i64 0) := by rw [hz7.cell]; rfl
           have fy1 := hz7.free 1
           have y2 : (w7.alloc (Obj.cells #[.int .u64 0, .int .i64 0, .int .u64 0, .int .u64 0, .int .u64 0, .string { data := #[] }, .slice none 0 0] 50)).cell? ⟨w7.heap.size, 2, none⟩ = some (.int .u64 0) := by rw [hz7.cell]; rfl
           have fy2 := hz7.free 2
           have y3 : (w7.alloc (Obj.cells #[.int .u64 0, .int .i64 0, .int .u64 0, .int .u64 0, .int .u64 0, .string { data := #[] }, .slice none 0 0] 50)).cell? ⟨w7.heap.size, 3, none⟩ = some (.int .u64 0) := by rw [hz7.cell]; rfl
           have fy3 := hz7.free 3
           have y4 : (w7.alloc (Obj.cells #[.int .u64 0, .int .i64 0, .int .u64 0, .int .u64 0, .int .u64 0, .string { data := #[] }, .slice none 0 0] 50)).cell? ⟨w7.heap.size, 4, none⟩ = some (.int .u64 0) := by rw [hz7.cell]; rfl
           have fy4 := hz7.free 4
           have y5 : (w7.alloc (Obj.cells #[.int .u64 0, .int .i64 0, .int .u64 0, .int .u64 0, .int .u64 0, .string { data := #[] }, .slice none 0 0] 50)).cell? ⟨w7.heap.size, 5, none⟩ = some (.string { data := #[] }) := by rw [hz7.cell]; rfl
           have fy5 := hz7.free 5
           have y6 : (w7.alloc (Obj.cells #[.int .u64 0, .int .i64 0, .int .u64 0, .int .u64 0, .int .u64 0, .string { data := #[] }, .slice none 0 0] 50)).cell? ⟨w7.heap.size, 6, none⟩ = some (.slice none 0 0) := by rw [hz7.cell]; rfl
           have fy6 := hz7.free 6
           have n7 := World.new_ne w7 ⟨S, 0, none⟩ c0
           have m7 := World.new_ne w7 ⟨bz, oz + k, none⟩ cz0
           (try have t0 : w7.cell? ⟨wr.heap.size, 0, none⟩ = some (.int .u64 0) := by rw [hT7.cell]; rfl)
           (try have ft0 := hT7.free 0)
           (try have t1 : w7.cell? ⟨wr.heap.size, 1, none⟩ = some (.int .i64 0) := by rw [hT7.cell]; rfl)
           (try have ft1 := hT7.free 1)
           (try have t2 : w7.cell? ⟨wr.heap.size, 2, none⟩ = some (.int .u64 0) := by rw [hT7.cell]; rfl)
           (try have ft2 := hT7.free 2)
           (try have t3 : w7.cell? ⟨wr.heap.size, 3, none⟩ = some (.int .u64 0) := by rw [hT7.cell]; rfl)
           (try have ft3 := hT7.free 3)
           (try have t4 : w7.cell? ⟨wr.heap.size, 4, none⟩ = some (.int .u64 0) := by rw [hT7.cell]; rfl)
           (try have ft4 := hT7.free 4)
           (try have t5 : w7.cell? ⟨wr.heap.size, 5, none⟩ = some (.string { data := #[] }) := by rw [hT7.cell]; rfl)
           (try have ft5 := hT7.free 5)
           (try have t6 : w7.cell? ⟨wr.heap.size, 6, none⟩ = some (.slice none 0 0) := by rw [hT7.cell]; rfl)
           (try have ft6 := hT7.free 6)))
      · have hAl := (Only.refl NoBlock w7).alloc (Obj.cells #[.int .u64 ht', .int .i64 hv', .int .u64 si', .int .u64 st', .int .u64 sc', .string sd', .slice ao' es'.length cap'] 50)
        have hTF := Blk.made w7 #[.int .u64 ht', .int .i64 hv', .int .u64 si', .int .u64 st', .int .u64 sc', .string sd', .slice ao' es'.length cap'] 50
        have hne1 : S < w7.heap.size := hS7.lt
        have hne2 : R < w7.heap.size := hr7.lt
        have hSF := hS7.keeps hAl (fun h => h)
        have hrF := hr7.keeps hAl (fun h => h)
        have hlF := hl7.keeps hAl (fun _ _ h => h)
        have hnF := hw7.trans hAl
        have hTF' : Blk (w7.alloc (Obj.cells #[.int .u64 ht', .int .i64 hv', .int .u64 si', .int .u64 st', .int .u64 sc', .string sd', .slice ao' es'.length cap'] 50)) w7.heap.size #[.int .u64 ht', .int .i64 hv', .int .u64 si', .int .u64 st', .int .u64 sc', .string sd', .slice ao' es'.length cap'] 50 := hTF
        have hSF' : Blk (w7.alloc (Obj.cells #[.int .u64 ht', .int .i64 hv', .int .u64 si', .int .u64 st', .int .u64 sc', .string sd', .slice ao' es'.length cap'] 50)) S #[.int .u64 ht, .int .i64 hv, .int .u64 si, .int .u64 st, .int .u64 sc, .string sd, .slice ao es.length cap] 50 := hSF
        have hrF' : Blk (w7.alloc (Obj.cells #[.int .u64 ht', .int .i64 hv', .int .u64 si', .int .u64 st', .int .u64 sc', .string sd', .slice ao' es'.length cap'] 50)) R #[.int .u64 0, .int .i64 0, .int .u64 0, .int .u64 0, .int .u64 0, .string { data := #[] }, .slice none 0 0] 50 := hrF
        have hlF' : EntsIn (w7.alloc (Obj.cells #[.int .u64 ht', .int .i64 hv', .int .u64 si', .int .u64 st', .int .u64 sc', .string sd', .slice ao' es'.length cap'] 50)) ao' es' := hlF
        have hnF' : Only NoBlock w (w7.alloc (Obj.cells #[.int .u64 ht', .int .i64 hv', .int .u64 si', .int .u64 st', .int .u64 sc', .string sd', .slice ao' es'.length cap'] 50)) := hnF
        generalize w7.alloc (Obj.cells #[.int .u64 ht', .int .i64 hv', .int .u64 si', .int .u64 st', .int .u64 sc', .string sd', .slice ao' es'.length cap'] 50) = wF at hTF' hSF' hrF' hlF' hnF' ⊢
        have hTS : w7.heap.size ≠ S := by omega
        generalize w7.heap.size = T at hTF' hTS ⊢
        (try clear hvo)
        clear hTF hSF hrF hlF hnF
        clear c0 c1 c2 c3 c4 c5 c6 y0 fy0 y1 fy1 y2 fy2 y3 fy3 y4 fy4 y5 fy5 y6 fy6 cz0 hz7
        (try clear t0 ft0 t1 ft1 t2 ft2 t3 ft3 t4 ft4 t5 ft5 t6 ft6)
        (try clear hO7)
        (try clear hO47)
        (try clear hS7)
        (try clear hr7)
        (try clear hl7)
        (try clear hw7)
        (try clear n7)
        (try clear m7)
        (try clear hc7)
        (try clear hT7)
        (try clear hI1)
        (try clear hI2)
        (try clear hO1)
        (try clear hO2)
        (try clear hT2)
        (try clear nS)
        (try clear nZ)
        (try clear hS5)
        (try clear hS4)
        (try clear hr4)
        (try clear hl4')
        (try clear hAl)
        have hle8 : es'.length ≤ es.length + 1 := hle7
        have HH7 : RowKit.Hid ((⟨ht', hv'⟩ : Hrd).Wf) := Lib.hid hh7
        have HS7 : RowKit.Hid ((⟨si', st', sc', sd'⟩ : Snp).Wf) := Lib.hid hs7
        clear hle7 hh7 hs7
        cases ok with
        | false =>
          have hno : Sto.rightO (Sto.said (Sto.first m) l) = none := by rw [Sto.said_none l (k + 1) _ (HSN.out.trans HT7)]; rfl
          have HNO := Lib.hid hno
          clear hno HSN HT7
          have q0 : wF.cell? ⟨R, 0, none⟩ = some (.int .u64 0) := by rw [hrF'.cell]; rfl
          have fq0 := hrF'.free 0
          have q1 : wF.cell? ⟨R, 1, none⟩ = some (.int .i64 0) := by rw [hrF'.cell]; rfl
          have fq1 := hrF'.free 1
          have q2 : wF.cell? ⟨R, 2, none⟩ = some (.int .u64 0) := by rw [hrF'.cell]; rfl
          have fq2 := hrF'.free 2
          have q3 : wF.cell? ⟨R, 3, none⟩ = some (.int .u64 0) := by rw [hrF'.cell]; rfl
          have fq3 := hrF'.free 3
          have q4 : wF.cell? ⟨R, 4, none⟩ = some (.int .u64 0) := by rw [hrF'.cell]; rfl
          have fq4 := hrF'.free 4
          have q5 : wF.cell? ⟨R, 5, none⟩ = some (.string { data := #[] }) := by rw [hrF'.cell]; rfl
          have fq5 := hrF'.free 5
          have q6 : wF.cell? ⟨R, 6, none⟩ = some (.slice none 0 0) := by rw [hrF'.cell]; rfl
          have fq6 := hrF'.free 6
          have hV := vset_blk8 hrF' (.int .u64 0) (.int .i64 0) (.int .u64 0) (.int .u64 0) (.int .u64 0) (.string { data := #[] }) (.slice none 0 0)
          have hvo := vset_only wF R (.int .u64 0) (.int .i64 0) (.int .u64 0) (.int .u64 0) (.int .u64 0) (.string { data := #[] }) (.slice none 0 0)
          have hn9 := hnF'.andThen hvo (fun k hk e => by have e' : k = R := e; omega)
          go_wp2_with fail
          (try simp only [Exit.inBlock, Exit.then])
          refine bodyPost_ret (results_cell_tmp (P := Try.prog) rfl _ _ R _ _ _ _ rfl hV HFS.out rfl size_rstate) rfl ?_
          exact ⟨false, ⟨⟨0, 0⟩, ⟨0, 0, 0, ByteArray.empty⟩, []⟩, none, 0, rfl, EntsIn.nil _ _, hn9, HNO.out, ⟨by decide, by decide⟩, ⟨by decide, by decide, by decide, by decide⟩, Nat.zero_le _, Far.none _ _⟩
        | true =>
          have HS2 : RowKit.Hid (Sto.said (Sto.first m) (l.take (k + 1)) = some ⟨⟨ht', hv'⟩, ⟨si', st', sc', sd'⟩, es'⟩) := Lib.hid (HSN.out.trans HT7)
          clear HSN HT7
          have t0 : wF.cell? ⟨T, 0, none⟩ = some (.int .u64 ht') := by rw [hTF'.cell]; rfl
          have t1 : wF.cell? ⟨T, 1, none⟩ = some (.int .i64 hv') := by rw [hTF'.cell]; rfl
          have t2 : wF.cell? ⟨T, 2, none⟩ = some (.int .u64 si') := by rw [hTF'.cell]; rfl
          have t3 : wF.cell? ⟨T, 3, none⟩ = some (.int .u64 st') := by rw [hTF'.cell]; rfl
          have t4 : wF.cell? ⟨T, 4, none⟩ = some (.int .u64 sc') := by rw [hTF'.cell]; rfl
          have t5 : wF.cell? ⟨T, 5, none⟩ = some (.string sd') := by rw [hTF'.cell]; rfl
          have t6 : wF.cell? ⟨T, 6, none⟩ = some (.slice ao' es'.length cap') := by rw [hTF'.cell]; rfl
          have c0 : wF.cell? ⟨S, 0, none⟩ = some (.int .u64 ht) := by rw [hSF'.cell]; rfl
          have fc0 := hSF'.free 0
          have c1 : wF.cell? ⟨S, 1, none⟩ = some (.int .i64 hv) := by rw [hSF'.cell]; rfl
          have fc1 := hSF'.free 1
          have c2 : wF.cell? ⟨S, 2, none⟩ = some (.int .u64 si) := by rw [hSF'.cell]; rfl
          have fc2 := hSF'.free 2
          have c3 : wF.cell? ⟨S, 3, none⟩ = some (.int .u64 st) := by rw [hSF'.cell]; rfl
          have fc3 := hSF'.free 3
          have c4 : wF.cell? ⟨S, 4, none⟩ = some (.int .u64 sc) := by rw [hSF'.cell]; rfl
          have fc4 := hSF'.free 4
          have c5 : wF.cell? ⟨S, 5, none⟩ = some (.string sd) := by rw [hSF'.cell]; rfl
          have fc5 := hSF'.free 5
          have c6 : wF.cell? ⟨S, 6, none⟩ = some (.slice ao es.length cap) := by rw [hSF'.cell]; rfl
          have fc6 := hSF'.free 6
          have hSV : Blk (vset wF S (.int .u64 ht') (.int .i64 hv') (.int .u64 si') (.int .u64 st') (.int .u64 sc') (.string sd') (.slice ao' es'.length cap')) S #[.int .u64 ht', .int .i64 hv', .int .u64 si', .int .u64 st', .int .u64 sc', .string sd', .slice ao' es'.length cap'] 50 := (((((((hSF'.setCell 0 (.int .u64 ht')).setCell 1 (.int .i64 hv')).setCell 2 (.int .u64 si')).setCell 3 (.int .u64 st')).setCell 4 (.int .u64 sc')).setCell 5 (.string sd')).setCell 6 (.slice ao' es'.length cap'))
          have hvo := vset_only wF S (.int .u64 ht') (.int .i64 hv') (.int .u64 si') (.int .u64 st') (.int .u64 sc') (.string sd') (.slice ao' es'.length cap')
          have hn9 := hnF'.andThen hvo (fun k hk e => by have e' : k = S := e; omega)
          have hl9 := EntsIn.keepsS (h := ⟨ht, hv⟩) (s := ⟨si, st, sc, sd⟩) hlF' hSF' hvo
          have hr9 := hrF'.keeps hvo (fun e => by have e' : R = S := e; omega)
          go_wp2_with fail
          go_roundw
          case rel =>
            (try refine ⟨RELHOLES?_, rfl⟩)
            exact ⟨k + 1, ⟨⟨ht', hv'⟩, ⟨si', st', sc', sd'⟩, es'⟩, ao', cap', by omega, by go_num, HS2, hSV, hl9, hr9, hn9, HH7.out, HS7.out, by show es'.length ≤ k + 1; omega, hfar8⟩
          case measure => simp [intOf]; omega
      · have hvo := vset_only w7 wr.heap.size (.int .u64 ht') (.int .i64 hv') (.int .u64 si') (.int .u64 st') (.int .u64 sc') (.string sd') (.slice ao' es'.length cap')
        have hTF := vset_blk8 hT7 (.int .u64 ht') (.int .i64 hv') (.int .u64 si') (.int .u64 st') (.int .u64 sc') (.string sd') (.slice ao' es'.length cap')
        have hne1 : wr.heap.size ≠ S := by have := hS5.lt; omega
        have hne2 : wr.heap.size ≠ R := by have := hr4.lt; omega
        have hSF := hS7.keeps hvo (fun e => hne1 e.symm)
        have hrF := hr7.keeps hvo (fun e => hne2 e.symm)
        have hlF := EntsIn.keepsS (h := ⟨0, 0⟩) (s := ⟨0, 0, 0, ByteArray.empty⟩) (b := none) (n := 0) (c := 0) hl7 hT7 hvo
        have hnF := hw7.andThen hvo (fun k hk e => by have e' : k = wr.heap.size := e; have := hn4.size; omega)
        have hTF' : Blk ((((((((w7.setCell ⟨wr.heap.size, 0, none⟩ (.int .u64 ht')).setCell ⟨wr.heap.size, 1, none⟩ (.int .i64 hv')).setCell ⟨wr.heap.size, 2, none⟩ (.int .u64 si')).setCell ⟨wr.heap.size, 3, none⟩ (.int .u64 st')).setCell ⟨wr.heap.size, 4, none⟩ (.int .u64 sc')).setCell ⟨wr.heap.size, 5, none⟩ (.string sd')).setCell ⟨wr.heap.size, 6, none⟩ (.slice ao' es'.length cap'))) wr.heap.size #[.int .u64 ht', .int .i64 hv', .int .u64 si', .int .u64 st', .int .u64 sc', .string sd', .slice ao' es'.length cap'] 50 := hTF
        have hSF' : Blk ((((((((w7.setCell ⟨wr.heap.size, 0, none⟩ (.int .u64 ht')).setCell ⟨wr.heap.size, 1, none⟩ (.int .i64 hv')).setCell ⟨wr.heap.size, 2, none⟩ (.int .u64 si')).setCell ⟨wr.heap.size, 3, none⟩ (.int .u64 st')).setCell ⟨wr.heap.size, 4, none⟩ (.int .u64 sc')).setCell ⟨wr.heap.size, 5, none⟩ (.string sd')).setCell ⟨wr.heap.size, 6, none⟩ (.slice ao' es'.length cap'))) S #[.int .u64 ht, .int .i64 hv, .int .u64 si, .int .u64 st, .int .u64 sc, .string sd, .slice ao es.length cap] 50 := hSF
        have hrF' : Blk ((((((((w7.setCell ⟨wr.heap.size, 0, none⟩ (.int .u64 ht')).setCell ⟨wr.heap.size, 1, none⟩ (.int .i64 hv')).setCell ⟨wr.heap.size, 2, none⟩ (.int .u64 si')).setCell ⟨wr.heap.size, 3, none⟩ (.int .u64 st')).setCell ⟨wr.heap.size, 4, none⟩ (.int .u64 sc')).setCell ⟨wr.heap.size, 5, none⟩ (.string sd')).setCell ⟨wr.heap.size, 6, none⟩ (.slice ao' es'.length cap'))) R #[.int .u64 0, .int .i64 0, .int .u64 0, .int .u64 0, .int .u64 0, .string { data := #[] }, .slice none 0 0] 50 := hrF
        have hlF' : EntsIn ((((((((w7.setCell ⟨wr.heap.size, 0, none⟩ (.int .u64 ht')).setCell ⟨wr.heap.size, 1, none⟩ (.int .i64 hv')).setCell ⟨wr.heap.size, 2, none⟩ (.int .u64 si')).setCell ⟨wr.heap.size, 3, none⟩ (.int .u64 st')).setCell ⟨wr.heap.size, 4, none⟩ (.int .u64 sc')).setCell ⟨wr.heap.size, 5, none⟩ (.string sd')).setCell ⟨wr.heap.size, 6, none⟩ (.slice ao' es'.length cap'))) ao' es' := hlF
        have hnF' : Only NoBlock w ((((((((w7.setCell ⟨wr.heap.size, 0, none⟩ (.int .u64 ht')).setCell ⟨wr.heap.size, 1, none⟩ (.int .i64 hv')).setCell ⟨wr.heap.size, 2, none⟩ (.int .u64 si')).setCell ⟨wr.heap.size, 3, none⟩ (.int .u64 st')).setCell ⟨wr.heap.size, 4, none⟩ (.int .u64 sc')).setCell ⟨wr.heap.size, 5, none⟩ (.string sd')).setCell ⟨wr.heap.size, 6, none⟩ (.slice ao' es'.length cap'))) := hnF
        generalize (((((((w7.setCell ⟨wr.heap.size, 0, none⟩ (.int .u64 ht')).setCell ⟨wr.heap.size, 1, none⟩ (.int .i64 hv')).setCell ⟨wr.heap.size, 2, none⟩ (.int .u64 si')).setCell ⟨wr.heap.size, 3, none⟩ (.int .u64 st')).setCell ⟨wr.heap.size, 4, none⟩ (.int .u64 sc')).setCell ⟨wr.heap.size, 5, none⟩ (.string sd')).setCell ⟨wr.heap.size, 6, none⟩ (.slice ao' es'.length cap')) = wF at hTF' hSF' hrF' hlF' hnF' ⊢
        have hTS := hne1
        generalize wr.heap.size = T at hTF' hTS ⊢
        (try clear hvo)
        clear hTF hSF hrF hlF hnF
        clear c0 c1 c2 c3 c4 c5 c6 y0 fy0 y1 fy1 y2 fy2 y3 fy3 y4 fy4 y5 fy5 y6 fy6 cz0 hz7
        (try clear t0 ft0 t1 ft1 t2 ft2 t3 ft3 t4 ft4 t5 ft5 t6 ft6)
        (try clear hO7)
        (try clear hO47)
        (try clear hS7)
        (try clear hr7)
        (try clear hl7)
        (try clear hw7)
        (try clear n7)
        (try clear m7)
        (try clear hc7)
        (try clear hT7)
        (try clear hI1)
        (try clear hI2)
        (try clear hO1)
        (try clear hO2)
        (try clear hT2)
        (try clear nS)
        (try clear nZ)
        (try clear hS5)
        (try clear hS4)
        (try clear hr4)
        (try clear hl4')
        (try clear hAl)
        have hle8 : es'.length ≤ es.length + 1 := hle7
        have HH7 : RowKit.Hid ((⟨ht', hv'⟩ : Hrd).Wf) := Lib.hid hh7
        have HS7 : RowKit.Hid ((⟨si', st', sc', sd'⟩ : Snp).Wf) := Lib.hid hs7
        clear hle7 hh7 hs7
        cases ok with
        | false =>
          have hno : Sto.rightO (Sto.said (Sto.first m) l) = none := by rw [Sto.said_none l (k + 1) _ (HSN.out.trans HT7)]; rfl
          have HNO := Lib.hid hno
          clear hno HSN HT7
          have q0 : wF.cell? ⟨R, 0, none⟩ = some (.int .u64 0) := by rw [hrF'.cell]; rfl
          have fq0 := hrF'.free 0
          have q1 : wF.cell? ⟨R, 1, none⟩ = some (.int .i64 0) := by rw [hrF'.cell]; rfl
          have fq1 := hrF'.free 1
          have q2 : wF.cell? ⟨R, 2, none⟩ = some (.int .u64 0) := by rw [hrF'.cell]; rfl
          have fq2 := hrF'.free 2
          have q3 : wF.cell? ⟨R, 3, none⟩ = some (.int .u64 0) := by rw [hrF'.cell]; rfl
          have fq3 := hrF'.free 3
          have q4 : wF.cell? ⟨R, 4, none⟩ = some (.int .u64 0) := by rw [hrF'.cell]; rfl
          have fq4 := hrF'.free 4
          have q5 : wF.cell? ⟨R, 5, none⟩ = some (.string { data := #[] }) := by rw [hrF'.cell]; rfl
          have fq5 := hrF'.free 5
          have q6 : wF.cell? ⟨R, 6, none⟩ = some (.slice none 0 0) := by rw [hrF'.cell]; rfl
          have fq6 := hrF'.free 6
          have hV := vset_blk8 hrF' (.int .u64 0) (.int .i64 0) (.int .u64 0) (.int .u64 0) (.int .u64 0) (.string { data := #[] }) (.slice none 0 0)
          have hvo := vset_only wF R (.int .u64 0) (.int .i64 0) (.int .u64 0) (.int .u64 0) (.int .u64 0) (.string { data := #[] }) (.slice none 0 0)
          have hn9 := hnF'.andThen hvo (fun k hk e => by have e' : k = R := e; omega)
          go_wp2_with fail
          (try simp only [Exit.inBlock, Exit.then])
          refine bodyPost_ret (results_cell_tmp (P := Try.prog) rfl _ _ R _ _ _ _ rfl hV HFS.out rfl size_rstate) rfl ?_
          exact ⟨false, ⟨⟨0, 0⟩, ⟨0, 0, 0, ByteArray.empty⟩, []⟩, none, 0, rfl, EntsIn.nil _ _, hn9, HNO.out, ⟨by decide, by decide⟩, ⟨by decide, by decide, by decide, by decide⟩, Nat.zero_le _, Far.none _ _⟩
        | true =>
          have HS2 : RowKit.Hid (Sto.said (Sto.first m) (l.take (k + 1)) = some ⟨⟨ht', hv'⟩, ⟨si', st', sc', sd'⟩, es'⟩) := Lib.hid (HSN.out.trans HT7)
          clear HSN HT7
          have t0 : wF.cell? ⟨T, 0, none⟩ = some (.int .u64 ht') := by rw [hTF'.cell]; rfl
          have t1 : wF.cell? ⟨T, 1, none⟩ = some (.int .i64 hv') := by rw [hTF'.cell]; rfl
          have t2 : wF.cell? ⟨T, 2, none⟩ = some (.int .u64 si') := by rw [hTF'.cell]; rfl
          have t3 : wF.cell? ⟨T, 3, none⟩ = some (.int .u64 st') := by rw [hTF'.cell]; rfl
          have t4 : wF.cell? ⟨T, 4, none⟩ = some (.int .u64 sc') := by rw [hTF'.cell]; rfl
          have t5 : wF.cell? ⟨T, 5, none⟩ = some (.string sd') := by rw [hTF'.cell]; rfl
          have t6 : wF.cell? ⟨T, 6, none⟩ = some (.slice ao' es'.length cap') := by rw [hTF'.cell]; rfl
          have c0 : wF.cell? ⟨S, 0, none⟩ = some (.int .u64 ht) := by rw [hSF'.cell]; rfl
          have fc0 := hSF'.free 0
          have c1 : wF.cell? ⟨S, 1, none⟩ = some (.int .i64 hv) := by rw [hSF'.cell]; rfl
          have fc1 := hSF'.free 1
          have c2 : wF.cell? ⟨S, 2, none⟩ = some (.int .u64 si) := by rw [hSF'.cell]; rfl
          have fc2 := hSF'.free 2
          have c3 : wF.cell? ⟨S, 3, none⟩ = some (.int .u64 st) := by rw [hSF'.cell]; rfl
          have fc3 := hSF'.free 3
          have c4 : wF.cell? ⟨S, 4, none⟩ = some (.int .u64 sc) := by rw [hSF'.cell]; rfl
          have fc4 := hSF'.free 4
          have c5 : wF.cell? ⟨S, 5, none⟩ = some (.string sd) := by rw [hSF'.cell]; rfl
          have fc5 := hSF'.free 5
          have c6 : wF.cell? ⟨S, 6, none⟩ = some (.slice ao es.length cap) := by rw [hSF'.cell]; rfl
          have fc6 := hSF'.free 6
          have hSV : Blk (vset wF S (.int .u64 ht') (.int .i64 hv') (.int .u64 si') (.int .u64 st') (.int .u64 sc') (.string sd') (.slice ao' es'.length cap')) S #[.int .u64 ht', .int .i64 hv', .int .u64 si', .int .u64 st', .int .u64 sc', .string sd', .slice ao' es'.length cap'] 50 := (((((((hSF'.setCell 0 (.int .u64 ht')).setCell 1 (.int .i64 hv')).setCell 2 (.int .u64 si')).setCell 3 (.int .u64 st')).setCell 4 (.int .u64 sc')).setCell 5 (.string sd')).setCell 6 (.slice ao' es'.length cap'))
          have hvo := vset_only wF S (.int .u64 ht') (.int .i64 hv') (.int .u64 si') (.int .u64 st') (.int .u64 sc') (.string sd') (.slice ao' es'.length cap')
          have hn9 := hnF'.andThen hvo (fun k hk e => by have e' : k = S := e; omega)
          have hl9 := EntsIn.keepsS (h := ⟨ht, hv⟩) (s := ⟨si, st, sc, sd⟩) hlF' hSF' hvo
          have hr9 := hrF'.keeps hvo (fun e => by have e' : R = S := e; omega)
          go_wp2_with fail
          go_roundw
          case rel =>
            (try refine ⟨RELHOLES?_, rfl⟩)
            exact ⟨k + 1, ⟨⟨ht', hv'⟩, ⟨si', st', sc', sd'⟩, es'⟩, ao', cap', by omega, by go_num, HS2, hSV, hl9, hr9, hn9, HH7.out, HS7.out, by show es'.length ≤ k + 1; omega, hfar8⟩
          case measure => simp [intOf]; omega
    · obtain rfl : k = l.length := by omega
      rw [List.take_length] at HS
      have hdat : ∀ e ∈ es, e.data.size ≤ 1000000000000 := fun e he => Nat.le_trans (Sto.said_dat l _ _ HS.out (fun e he => by cases he) e he) (by decide)
      have HRT : RowKit.Hid (Sto.rightO (Sto.said (Sto.first m) l) = if rightB ⟨ht, hv⟩ ⟨si, st, sc, sd⟩ es = true then some ⟨⟨ht, hv⟩, ⟨si, st, sc, sd⟩, es⟩ else none) := Lib.hid (by rw [HS.out]; rfl)
      have hO1 : Only NoBlock wr wr.drew := (Only.refl NoBlock wr).drew
      have hI1 := hl4'.keeps hO1 (fun _ _ h => h)
      go_wp2_with fail
      go_region_held3 (fun w' => w'.cell? ⟨S, 0, none⟩ = some (.int .u64 ht) ∧ w'.cell? ⟨S, 1, none⟩ = some (.int .i64 hv) ∧ w'.cell? ⟨S, 2, none⟩ = some (.int .u64 si) ∧ w'.cell? ⟨S, 3, none⟩ = some (.int .u64 st) ∧ w'.cell? ⟨S, 4, none⟩ = some (.int .u64 sc) ∧ w'.cell? ⟨S, 5, none⟩ = some (.string sd) ∧ w'.cell? ⟨S, 6, none⟩ = some (.slice ao es.length cap)) (first | with_reducible exact ⟨c0, c1, c2, c3, c4, c5, c6⟩ | go_keep)
        ((go_at_call 56; refine (rright8_raw _ ht hv si st sc sd hs4 ao cap es (by with_reducible exact hI1) (by omega) hdat).mono ?_; rintro e w7 ⟨rfl, hO7⟩; have hO47 : Only NoBlock wr w7 := hO1.trans hO7; have hS7 := hS5.keeps hO47 (fun h => h); have hr7 := hr4.keeps hO47 (fun h => h); have hl7 := hl4'.keeps hO47 (fun _ _ h => h); have hw7 : Only NoBlock w w7 := hn4.trans hO47
          have c0 : w7.cell? ⟨S, 0, none⟩ = some (.int .u64 ht) := by rw [hS7.cell]; rfl
          have c1 : w7.cell? ⟨S, 1, none⟩ = some (.int .i64 hv) := by rw [hS7.cell]; rfl
          have c2 : w7.cell? ⟨S, 2, none⟩ = some (.int .u64 si) := by rw [hS7.cell]; rfl
          have c3 : w7.cell? ⟨S, 3, none⟩ = some (.int .u64 st) := by rw [hS7.cell]; rfl
          have c4 : w7.cell? ⟨S, 4, none⟩ = some (.int .u64 sc) := by rw [hS7.cell]; rfl
          have c5 : w7.cell? ⟨S, 5, none⟩ = some (.string sd) := by rw [hS7.cell]; rfl
          have c6 : w7.cell? ⟨S, 6, none⟩ = some (.slice ao es.length cap) := by rw [hS7.cell]; rfl
          have q0 : w7.cell? ⟨R, 0, none⟩ = some (.int .u64 0) := by rw [hr7.cell]; rfl
          have fq0 := hr7.free 0
          have q1 : w7.cell? ⟨R, 1, none⟩ = some (.int .i64 0) := by rw [hr7.cell]; rfl
          have fq1 := hr7.free 1
          have q2 : w7.cell? ⟨R, 2, none⟩ = some (.int .u64 0) := by rw [hr7.cell]; rfl
          have fq2 := hr7.free 2
          have q3 : w7.cell? ⟨R, 3, none⟩ = some (.int .u64 0) := by rw [hr7.cell]; rfl
          have fq3 := hr7.free 3
          have q4 : w7.cell? ⟨R, 4, none⟩ = some (.int .u64 0) := by rw [hr7.cell]; rfl
          have fq4 := hr7.free 4
          have q5 : w7.cell? ⟨R, 5, none⟩ = some (.string { data := #[] }) := by rw [hr7.cell]; rfl
          have fq5 := hr7.free 5
          have q6 : w7.cell? ⟨R, 6, none⟩ = some (.slice none 0 0) := by rw [hr7.cell]; rfl
          have fq6 := hr7.free 6
          have hne : S ≠ R := by omega
          have hne' : R ≠ S := by omega))
      have hV := vset_blk8 hr7 (.int .u64 ht) (.int .i64 hv) (.int .u64 si) (.int .u64 st) (.int .u64 sc) (.string sd) (.slice ao es.length cap)
      have hvo := vset_only w7 R (.int .u64 ht) (.int .i64 hv) (.int .u64 si) (.int .u64 st) (.int .u64 sc) (.string sd) (.slice ao es.length cap)
      have hn9 := hw7.andThen hvo (fun k hk e => by have e' : k = R := e; omega)
      have hl9 := EntsIn.keepsS (h := ⟨0, 0⟩) (s := ⟨0, 0, 0, ByteArray.empty⟩) (b := none) (n := 0) (c := 0) hl7 hr7 hvo
      go_wp2_with fail
      (try simp only [Exit.inBlock, Exit.then])
      refine bodyPost_ret (results_cell_tmp (P := Try.prog) rfl _ _ R _ _ _ _ rfl hV HFS.out rfl size_rstate) rfl ?_
      exact ⟨rightB ⟨ht, hv⟩ ⟨si, st, sc, sd⟩ es, ⟨⟨ht, hv⟩, ⟨si, st, sc, sd⟩, es⟩, ao, cap, rfl, hl9, hn9, HRT.out, hh4, hs4, by show es.length ≤ l.length; omega, hfar4⟩
end Go.Proofs.Ytekmjhenhgmpgaa

/- The document's store is opened. -/
namespace Go.Proofs.Ytekmjhenhgmpgaa
open Go.RowKit
set_option maxRecDepth 100000

/-- block u is the document's store: a log, a state, a row that is read -/
structure RStoreAt (w : World) (u g : Nat) (s : St) : Prop where
  hard : s.hard.Wf
  snap : s.snap.Wf
  ex : ∃ ao cap, Blk w u #[.pointer (some ⟨g, 0, none⟩), .int .u64 s.hard.term, .int .i64 s.hard.vote, .int .u64 s.snap.index, .int .u64 s.snap.term, .int .u64 s.snap.config, .string s.snap.data, .slice ao s.es.length cap] 52 ∧ EntsIn w ao s.es
def ROpen8End (M : DM) (n : Int) (m r : Nat) (w : World) (e : Ending) (w' : World) : Prop :=
  ∃ pt, e = .returned (.tuple #[pt, .int .i64 (Sto.openE M n m)]) ∧ RefAt w' r (Sto.openM M n m) ∧ Only (fun k => k = r) w w' ∧
    ((Sto.openE M n m = 0 ∧ ∃ u g s, Sto.said (Sto.first m) (Wal.openL M n) = some s ∧ pt = .pointer (some ⟨u, 0, none⟩) ∧ w.heap.size ≤ u ∧ RLogAt w' g r n ∧ RStoreAt w' u g s) ∨ (Sto.openE M n m ≠ 0 ∧ pt = .pointer none))
theorem ROpen8End.no {M : DM} {n : Int} {m r : Nat} {w w' : World} (x : Int) (M' : DM) (hx : Sto.openE M n m = x) (hM : Sto.openM M n m = M') (h0 : x ≠ 0) (hd : RefAt w' r M') (ho : Only (fun k => k = r) w w') :
    ROpen8End M n m r w (.returned (.tuple #[.pointer none, .int .i64 x])) w' := by
  subst hx; subst hM
  exact ⟨_, rfl, hd, ho, .inr ⟨h0, rfl⟩⟩

set_option maxHeartbeats 4000000 in
theorem ropen8_at (w : World) (r : Nat) (M : DM) (n : Int) (m : Nat) (h : RefAt w r M) (hM : M.Ok) (hm : m < 18446744073709551616) :
    Calls Try.prog 15 #[.pointer (some ⟨r, 0, none⟩), .int .i64 n, .int .u64 m] w (ROpen8End M n m r w) := by
  have hlen := Sto.open_len hM n
  have hsh := Wal.recs_short (M.read n)
  have HSH : RowKit.Hid (∀ b ∈ Wal.openL M n, b.size ≤ 1000000000000) := Lib.hid (fun b hb => Nat.le_trans (hsh b hb) (by decide))
  clear hsh
  have hrl := h.lt
  go_enter Try.func15, Try.ntmps15
  go_wp2_with fail
  refine (rsound_at w m (by omega)).mono ?_
  rintro e w2 ⟨rfl, rfl⟩
  cases hq : Qu.soundB m with
  | false =>
    have HE : RowKit.Hid (Sto.openE M n m = 1) := Lib.hid (by unfold Sto.openE; rw [if_pos hq])
    have HM : RowKit.Hid (Sto.openM M n m = M) := Lib.hid (by unfold Sto.openM; rw [if_pos hq])
    clear hq
    go_wp2_with fail
    go_ret2
    exact ROpen8End.no 1 M HE.out HM.out (by decide) h (Only.refl _ _)
  | true =>
    have HQ := Lib.hid hq
    clear hq
    have HM : RowKit.Hid (Sto.openM M n m = Wal.openM M n) := Lib.hid (by unfold Sto.openM; rw [if_neg (by rw [HQ.out]; decide)])
    go_wp2_with fail
    refine (ropen_at w r M n h).mono ?_
    rintro e w2 ⟨p, v, rfl, hd2, ho2, hE⟩
    rcases hE with ⟨h0, g, rfl, hg, hL, hS⟩ | ⟨h0, rfl, rfl⟩
    · obtain ⟨ao, cap, rfl⟩ := hS.shape
      have hin := hS.read.1
      rw [h0]
      have H0 := Lib.hid h0
      clear h0 hS
      generalize hL0 : Wal.openL M n = L at hin HSH hlen ⊢
      have HL := Lib.hid hL0
      clear hL0
      go_wp2_with fail
      refine (rsaid8_at w2 m hm ao cap L hin (by omega) HSH.out).mono ?_
      rintro e w3 ⟨ok, ⟨⟨ht, hv⟩, ⟨si, st, sc, sd⟩, es⟩, ao3, cap3, rfl, hl3, ho3, HR3, hh3, hs3, hle3, -⟩
      have HR := Lib.hid HR3
      have HH := Lib.hid hh3
      have HSW := Lib.hid hs3
      clear HR3 hh3 hs3 hle3
      simp only [stCells]
      have hd3 : RefAt w3 r (Wal.openM M n) := hd2.keeps ho3 (fun h => h)
      have hL3 : RLogAt w3 g r n := Blk.keeps hL ho3 (fun h => h)
      have hn3 := ho2.andThen ho3 (fun _ _ h => h.elim)
      have hl3' : EntsIn w3 ao3 es := hl3
      clear hl3 hd2 hL ho2 ho3 hin
      have hA := (Only.refl NoBlock w3).alloc (Obj.cells #[.int .u64 ht, .int .i64 hv, .int .u64 si, .int .u64 st, .int .u64 sc, .string sd, .slice ao3 es.length cap3] 50)
      have hB := Blk.made w3 #[.int .u64 ht, .int .i64 hv, .int .u64 si, .int .u64 st, .int .u64 sc, .string sd, .slice ao3 es.length cap3] 50
      go_upto_region 7 with fail
      have hd4 := hd3.keeps hA (fun h => h)
      have hL4 : RLogAt _ g r n := Blk.keeps hL3 hA (fun h => h)
      have hn4 := hn3.andThen hA (fun _ _ h => h.elim)
      have hl4 := hl3'.keeps hA (fun _ _ h => h)
      generalize w3.heap.size = P at hB ⊢
      generalize w3.alloc (Obj.cells #[.int .u64 ht, .int .i64 hv, .int .u64 si, .int .u64 st, .int .u64 sc, .string sd, .slice ao3 es.length cap3] 50) = w4 at hB hd4 hL4 hn4 hl4 ⊢
      clear hA hd3 hL3 hn3 hl3'
      cases ok with
      | false =>
        have HE : RowKit.Hid (Sto.openE M n m = 2) := Lib.hid (by
          unfold Sto.openE
          rw [if_neg (by rw [HQ.out]; decide), if_neg (by rw [H0.out]; decide), HL.out]
          have hx := HR.out
          rw [if_neg (by decide)] at hx
          unfold Sto.rightO at hx
          cases hs : Sto.said (Sto.first m) L with
          | none => rfl
          | some s =>
            rw [hs] at hx
            simp only at hx ⊢
            split at hx
            · cases hx
            next hn => rw [if_neg hn])
        go_wp2_with fail
        go_ret2
        exact ROpen8End.no 2 _ HE.out HM.out (by decide) hd4 hn4
      | true =>
        have hx := HR.out
        rw [if_pos rfl] at hx
        have hboth : Sto.said (Sto.first m) L = some ⟨⟨ht, hv⟩, ⟨si, st, sc, sd⟩, es⟩ ∧ rightB ⟨ht, hv⟩ ⟨si, st, sc, sd⟩ es = true := by
          unfold Sto.rightO at hx
          cases hs : Sto.said (Sto.first m) L with
          | none => rw [hs] at hx; cases hx
          | some s =>
            rw [hs] at hx
            simp only at hx
            split at hx
            next hr => cases hx; exact ⟨rfl, hr⟩
            · cases hx
        have HE : RowKit.Hid (Sto.openE M n m = 0) := Lib.hid (by
          unfold Sto.openE
          rw [if_neg (by rw [HQ.out]; decide), if_neg (by rw [H0.out]; decide), HL.out, hboth.1]
          simp only
          rw [if_pos hboth.2])
        have HSD := Lib.hid (hboth.1)
        clear hx hboth
        have b0 : w4.cell? ⟨P, 0, none⟩ = some (.int .u64 ht) := by rw [hB.cell]; rfl
        have b1 : w4.cell? ⟨P, 1, none⟩ = some (.int .i64 hv) := by rw [hB.cell]; rfl
        have b2 : w4.cell? ⟨P, 2, none⟩ = some (.int .u64 si) := by rw [hB.cell]; rfl
        have b3 : w4.cell? ⟨P, 3, none⟩ = some (.int .u64 st) := by rw [hB.cell]; rfl
        have b4 : w4.cell? ⟨P, 4, none⟩ = some (.int .u64 sc) := by rw [hB.cell]; rfl
        have b5 : w4.cell? ⟨P, 5, none⟩ = some (.string sd) := by rw [hB.cell]; rfl
        have b6 : w4.cell? ⟨P, 6, none⟩ = some (.slice ao3 es.length cap3) := by rw [hB.cell]; rfl
        have hz4 := hn4.size
        go_wp2_with fail
        go_ret2
        have hA2 := (Only.refl NoBlock w4).alloc (Obj.cells #[.pointer (some ⟨g, 0, none⟩), .int .u64 ht, .int .i64 hv, .int .u64 si, .int .u64 st, .int .u64 sc, .string sd, .slice ao3 es.length cap3] 52)
        refine ⟨_, by rw [HE.out]; rfl, by rw [HM.out]; exact hd4.keeps hA2 (fun h => h), hn4.andThen hA2 (fun _ _ h => h.elim), .inl ⟨HE.out, w4.heap.size, g, ⟨⟨ht, hv⟩, ⟨si, st, sc, sd⟩, es⟩, by rw [HL.out]; exact HSD.out, rfl, hz4, Blk.keeps hL4 hA2 (fun h => h), ⟨HH.out, HSW.out, ao3, cap3, Blk.made _ _ _, hl4.keeps hA2 (fun _ _ h => h)⟩⟩⟩
    · have HE : RowKit.Hid (Sto.openE M n m = Wal.openE M n) := Lib.hid (by unfold Sto.openE; rw [if_neg (by rw [HQ.out]; decide), if_pos h0])
      generalize Wal.openE M n = x at h0 HE ⊢
      have d0 : (x != 0) = true := by simpa using h0
      have H0 := Lib.hid h0
      clear h0
      go_wp2_with fail
      go_ret2
      exact ROpen8End.no x _ HE.out HM.out H0.out hd2 ho2
end Go.Proofs.Ytekmjhenhgmpgaa
