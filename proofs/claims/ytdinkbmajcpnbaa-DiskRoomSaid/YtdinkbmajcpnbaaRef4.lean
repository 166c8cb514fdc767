/- The document's disk: lists by number. What each of its functions answers and leaves is what the plain disk says. -/
import Derived.Test.YtdinkbmajcpnbaaBegun4
namespace Go.Proofs.Ytdinkbmajcpnbaa
open Go.RowKit Go.Maps
set_option maxRecDepth 100000

/-- the cells of a document's disk -/
structure RC (cs : Array Value) (fi so : Nat → ByteArray) (th : Nat → Bool) (room fuel : Int) (off : Bool) : Prop where
  size : cs.size = 51
  firm : ∀ i, i < 16 → cs[i]? = some (.string (fi i))
  soft : ∀ i, i < 16 → cs[16 + i]? = some (.string (so i))
  there : ∀ i, i < 16 → cs[32 + i]? = some (.bool (th i))
  room : cs[48]? = some (.int .i64 room)
  fuel : cs[49]? = some (.int .i64 fuel)
  off : cs[50]? = some (.bool off)

def upd {α : Type} (f : Nat → α) (n : Nat) (v : α) : Nat → α := fun i => if i = n then v else f i

section
variable {cs : Array Value} {fi so : Nat → ByteArray} {th : Nat → Bool} {room fuel : Int} {off : Bool}
theorem set_get {cs : Array Value} {k j : Nat} {v : Value} (hk : k < cs.size) : (cs.setIfInBounds k v)[j]? = if k = j then some v else cs[j]? := by
  rw [Array.getElem?_setIfInBounds]
  split
  · simp [hk]
  · rfl
theorem RC.setFirm (h : RC cs fi so th room fuel off) {n : Nat} (hn : n < 16) (s : ByteArray) : RC (cs.setIfInBounds n (.string s)) (upd fi n s) so th room fuel off := by
  have hs := h.size
  refine ⟨by simpa using hs, fun i hi => ?_, fun i hi => ?_, fun i hi => ?_, ?_, ?_, ?_⟩ <;> rw [set_get (by omega)]
  · unfold upd
    by_cases e : n = i
    · rw [if_pos e, if_pos e.symm]
    · rw [if_neg e, if_neg (fun q => e q.symm)]; exact h.firm i hi
  · rw [if_neg (by omega)]; exact h.soft i hi
  · rw [if_neg (by omega)]; exact h.there i hi
  · rw [if_neg (by omega)]; exact h.room
  · rw [if_neg (by omega)]; exact h.fuel
  · rw [if_neg (by omega)]; exact h.off
theorem RC.setSoft (h : RC cs fi so th room fuel off) {n : Nat} (hn : n < 16) (s : ByteArray) : RC (cs.setIfInBounds (16 + n) (.string s)) fi (upd so n s) th room fuel off := by
  have hs := h.size
  refine ⟨by simpa using hs, fun i hi => ?_, fun i hi => ?_, fun i hi => ?_, ?_, ?_, ?_⟩ <;> rw [set_get (by omega)]
  · rw [if_neg (by omega)]; exact h.firm i hi
  · unfold upd
    by_cases e : n = i
    · rw [if_pos (by omega), if_pos e.symm]
    · rw [if_neg (by omega), if_neg (fun q => e q.symm)]; exact h.soft i hi
  · rw [if_neg (by omega)]; exact h.there i hi
  · rw [if_neg (by omega)]; exact h.room
  · rw [if_neg (by omega)]; exact h.fuel
  · rw [if_neg (by omega)]; exact h.off
theorem RC.setThere (h : RC cs fi so th room fuel off) {n : Nat} (hn : n < 16) (b : Bool) : RC (cs.setIfInBounds (32 + n) (.bool b)) fi so (upd th n b) room fuel off := by
  have hs := h.size
  refine ⟨by simpa using hs, fun i hi => ?_, fun i hi => ?_, fun i hi => ?_, ?_, ?_, ?_⟩ <;> rw [set_get (by omega)]
  · rw [if_neg (by omega)]; exact h.firm i hi
  · rw [if_neg (by omega)]; exact h.soft i hi
  · unfold upd
    by_cases e : n = i
    · rw [if_pos (by omega), if_pos e.symm]
    · rw [if_neg (by omega), if_neg (fun q => e q.symm)]; exact h.there i hi
  · rw [if_neg (by omega)]; exact h.room
  · rw [if_neg (by omega)]; exact h.fuel
  · rw [if_neg (by omega)]; exact h.off
theorem RC.setFuel (h : RC cs fi so th room fuel off) (n : Int) : RC (cs.setIfInBounds 49 (.int .i64 n)) fi so th room n off := by
  have hs := h.size
  refine ⟨by simpa using hs, fun i hi => ?_, fun i hi => ?_, fun i hi => ?_, ?_, ?_, ?_⟩ <;> rw [set_get (by omega)]
  · rw [if_neg (by omega)]; exact h.firm i hi
  · rw [if_neg (by omega)]; exact h.soft i hi
  · rw [if_neg (by omega)]; exact h.there i hi
  · rw [if_neg (by omega)]; exact h.room
  · rw [if_pos rfl]
  · rw [if_neg (by omega)]; exact h.off
theorem RC.setOff (h : RC cs fi so th room fuel off) (b : Bool) : RC (cs.setIfInBounds 50 (.bool b)) fi so th room fuel b := by
  have hs := h.size
  refine ⟨by simpa using hs, fun i hi => ?_, fun i hi => ?_, fun i hi => ?_, ?_, ?_, ?_⟩ <;> rw [set_get (by omega)]
  · rw [if_neg (by omega)]; exact h.firm i hi
  · rw [if_neg (by omega)]; exact h.soft i hi
  · rw [if_neg (by omega)]; exact h.there i hi
  · rw [if_neg (by omega)]; exact h.room
  · rw [if_neg (by omega)]; exact h.fuel
  · rw [if_pos rfl]
end

/-- what the lists say is what the files are -/
structure Says (F : Fs) (fi so : Nat → ByteArray) (th : Nat → Bool) : Prop where
  firm : ∀ i : Nat, i < 16 → fi i = ((F i).getD noFile).1
  soft : ∀ i : Nat, i < 16 → so i = ((F i).getD noFile).2
  there : ∀ i : Nat, i < 16 → th i = (F i).isSome

/-- block r is a document's disk, and it is M -/
def RefAt (w : World) (r : Nat) (M : DM) : Prop :=
  M.Ok ∧ ∃ cs fi so th, Blk w r cs 47 ∧ RC cs fi so th M.room M.fuel M.off ∧ Says M.files fi so th

theorem RefAt.ok {w : World} {r : Nat} {M : DM} (h : RefAt w r M) : M.Ok := h.1
theorem RefAt.lt {w : World} {r : Nat} {M : DM} (h : RefAt w r M) : r < w.heap.size := by obtain ⟨_, cs, fi, so, th, hb, _⟩ := h; exact hb.lt
theorem RefAt.keeps {S : Nat → Prop} {w w' : World} {r : Nat} {M : DM} (h : RefAt w r M) (ho : Only S w w') (hs : ¬ S r) : RefAt w' r M := by
  obtain ⟨hk, cs, fi, so, th, hb, q⟩ := h
  exact ⟨hk, cs, fi, so, th, hb.keeps ho hs, q⟩
theorem RefAt.drew {w : World} {r : Nat} {M : DM} (h : RefAt w r M) : RefAt w.drew r M := h
theorem RefAt.drewN {w : World} {r : Nat} {M : DM} (h : RefAt w r M) (n : Nat) : RefAt (w.drewN n) r M := h
theorem RefAt.free {w : World} {r : Nat} {M : DM} (h : RefAt w r M) (i : Nat) : w.frozen? ⟨r, i, none⟩ = false := by obtain ⟨_, cs, fi, so, th, hb, _⟩ := h; exact hb.free i
theorem RefAt.cFirm {w : World} {r : Nat} {M : DM} (h : RefAt w r M) {n : Nat} (hn : n < 16) : w.cell? ⟨r, n, none⟩ = some (.string ((M.files n).getD noFile).1) := by
  obtain ⟨_, cs, fi, so, th, hb, hc, hs⟩ := h
  rw [hb.cell, hc.firm n hn, hs.firm n hn]
theorem RefAt.cSoft {w : World} {r : Nat} {M : DM} (h : RefAt w r M) {n : Nat} (hn : n < 16) : w.cell? ⟨r, 16 + n, none⟩ = some (.string ((M.files n).getD noFile).2) := by
  obtain ⟨_, cs, fi, so, th, hb, hc, hs⟩ := h
  rw [hb.cell, hc.soft n hn, hs.soft n hn]
theorem RefAt.cThere {w : World} {r : Nat} {M : DM} (h : RefAt w r M) {n : Nat} (hn : n < 16) : w.cell? ⟨r, 32 + n, none⟩ = some (.bool (M.files n).isSome) := by
  obtain ⟨_, cs, fi, so, th, hb, hc, hs⟩ := h
  rw [hb.cell, hc.there n hn, hs.there n hn]
theorem RefAt.cRoom {w : World} {r : Nat} {M : DM} (h : RefAt w r M) : w.cell? ⟨r, 48, none⟩ = some (.int .i64 M.room) := by
  obtain ⟨_, cs, fi, so, th, hb, hc, hs⟩ := h
  rw [hb.cell, hc.room]
theorem RefAt.cFuel {w : World} {r : Nat} {M : DM} (h : RefAt w r M) : w.cell? ⟨r, 49, none⟩ = some (.int .i64 M.fuel) := by
  obtain ⟨_, cs, fi, so, th, hb, hc, hs⟩ := h
  rw [hb.cell, hc.fuel]
theorem RefAt.cOff {w : World} {r : Nat} {M : DM} (h : RefAt w r M) : w.cell? ⟨r, 50, none⟩ = some (.bool M.off) := by
  obtain ⟨_, cs, fi, so, th, hb, hc, hs⟩ := h
  rw [hb.cell, hc.off]

theorem rno_yes (w : World) (n : Int) (h : n < 0 ∨ 15 < n) :
    Calls Try.prog 43 #[.int .i64 n] w fun e w' => e = .returned (.bool true) ∧ w = w' := by
  rcases h with h | h
  · go_enter Try.func43, Try.ntmps43
    go_wp2
    go_ret
    exact ⟨by simp [h], rfl⟩
  · have h' : ¬ n < 0 := by omega
    go_enter Try.func43, Try.ntmps43
    go_wp2
    go_ret
    exact ⟨by simp [h], rfl⟩
theorem rno_no (w : World) (n : Int) (h0 : 0 ≤ n) (h1 : n < 16) :
    Calls Try.prog 43 #[.int .i64 n] w fun e w' => e = .returned (.bool false) ∧ w = w' := by
  have h' : ¬ n < 0 := by omega
  have h2 : ¬ 15 < n := by omega
  go_enter Try.func43, Try.ntmps43
  go_wp2
  go_ret
  exact ⟨by simp [h', h2], rfl⟩

theorem rnew_ok (w : World) (room : Int) (h0 : 0 ≤ room) (h1 : room ≤ 1048576) :
    Calls Try.prog 15 #[.int .i64 room] w fun e w' => e = .returned (.tuple #[.pointer (some ⟨w.heap.size, 0, none⟩), .int .i64 0]) ∧ RefAt w' w.heap.size (DM.new room) ∧ Only NoBlock w w' := by
  go_enter Try.func15, Try.ntmps15
  go_wp2
  go_ret2
  refine ⟨rfl, ⟨?_, _, fun _ => ByteArray.empty, fun _ => ByteArray.empty, fun _ => false, Blk.made _ _ _, ?_, ⟨fun _ _ => rfl, fun _ _ => rfl, fun _ _ => rfl⟩⟩, (Only.refl _ _).alloc _⟩
  · refine ⟨h0, h1, ?_, by simp [DM.new], by simp [DM.new], fun x f h => by cases h⟩
    unfold DM.new DM.used
    rw [tot_none]; exact h0
  · refine ⟨rfl, fun i hi => ?_, fun i hi => ?_, fun i hi => ?_, rfl, rfl, rfl⟩
    · match i, hi with
      | 0, _ => rfl | 1, _ => rfl | 2, _ => rfl | 3, _ => rfl | 4, _ => rfl | 5, _ => rfl | 6, _ => rfl | 7, _ => rfl | 8, _ => rfl | 9, _ => rfl | 10, _ => rfl | 11, _ => rfl | 12, _ => rfl | 13, _ => rfl | 14, _ => rfl | 15, _ => rfl | n + 16, h => exact absurd h (by omega)
    · match i, hi with
      | 0, _ => rfl | 1, _ => rfl | 2, _ => rfl | 3, _ => rfl | 4, _ => rfl | 5, _ => rfl | 6, _ => rfl | 7, _ => rfl | 8, _ => rfl | 9, _ => rfl | 10, _ => rfl | 11, _ => rfl | 12, _ => rfl | 13, _ => rfl | 14, _ => rfl | 15, _ => rfl | n + 16, h => exact absurd h (by omega)
    · match i, hi with
      | 0, _ => rfl | 1, _ => rfl | 2, _ => rfl | 3, _ => rfl | 4, _ => rfl | 5, _ => rfl | 6, _ => rfl | 7, _ => rfl | 8, _ => rfl | 9, _ => rfl | 10, _ => rfl | 11, _ => rfl | 12, _ => rfl | 13, _ => rfl | 14, _ => rfl | 15, _ => rfl | n + 16, h => exact absurd h (by omega)
theorem rnew_no (w : World) (room : Int) (h : room < 0 ∨ 1048576 < room) :
    Calls Try.prog 15 #[.int .i64 room] w fun e w' => e = .returned (.tuple #[.pointer none, .int .i64 1]) ∧ w = w' := by
  rcases h with h | h
  · go_enter Try.func15, Try.ntmps15
    go_wp2
    go_ret2
    exact ⟨rfl, rfl⟩
  · have h' : ¬ room < 0 := by omega
    go_enter Try.func15, Try.ntmps15
    go_wp2
    go_ret2
    exact ⟨rfl, rfl⟩

theorem rhas_no (w : World) (r : Nat) (n : Int) (h : n < 0 ∨ 15 < n) :
    Calls Try.prog 37 #[.pointer (some ⟨r, 0, none⟩), .int .i64 n] w fun e w' => e = .returned (.bool false) ∧ w = w' := by
  go_enter Try.func37, Try.ntmps37
  go_wp2_with (first | (go_at_call 43; refine (rno_yes _ _ h).mono ?_; rintro e w1 ⟨rfl, rfl⟩))
  go_ret
  exact ⟨rfl, rfl⟩
theorem rhas_at (w : World) (r : Nat) (M : DM) (n : Nat) (hn : n < 16) (h : RefAt w r M) (b : Bool) (hb : (M.files n).isSome = b) :
    Calls Try.prog 37 #[.pointer (some ⟨r, 0, none⟩), .int .i64 n] w fun e w' => e = .returned (.bool b) ∧ w = w' := by
  have c := h.cThere hn
  rw [hb] at c
  go_enter Try.func37, Try.ntmps37
  go_wp2_with (first | (go_at_call 43; refine (rno_no _ _ (by omega) (by omega)).mono ?_; rintro e w1 ⟨rfl, rfl⟩))
  go_ret
  exact ⟨rfl, rfl⟩

theorem rstep_at (w : World) (r : Nat) (M : DM) (h : RefAt w r M) (hoff : M.off = false) :
    Calls Try.prog 44 #[.pointer (some ⟨r, 0, none⟩)] w fun e w' => e = .returned (.bool M.steps) ∧ RefAt w' r M.stepped ∧ Only (fun k => k = r) w w' := by
  have c1 := h.cFuel
  have c2 := h.cOff
  have f1 := h.free 49
  have f2 := h.free 50
  have hf0 := h.ok.fuel0
  have hf1 := h.ok.fuel1
  obtain ⟨hk, cs, fi, so, th, hb, hc, hs⟩ := h
  have hok := hk
  go_enter Try.func44, Try.ntmps44
  go_wp2
  all_goals go_ret
  · have hz : M.fuel = 0 := by have : (M.fuel == 0) = true := by assumption
                               simpa using this
    refine ⟨by simp [DM.steps, hoff, hz], ?_, Only.one (S := fun k => k = r) rfl _⟩
    have e : M.stepped = { M with off := true } := by simp [DM.stepped, hoff, hz]
    rw [e]
    exact ⟨hok.with rfl rfl hok.fuel0 hok.fuel1, _, fi, so, th, hb.setCell 50 _, hc.setOff true, hs⟩
  · have hz : 0 < M.fuel := by assumption
    have hz' : M.fuel ≠ 0 := by omega
    refine ⟨by simp [DM.steps, hoff, hz'], ?_, Only.one (S := fun k => k = r) rfl _⟩
    have e : M.stepped = { M with fuel := M.fuel - 1 } := by simp [DM.stepped, hoff, hz, hz']
    rw [e]
    exact ⟨hok.with rfl rfl (by show -1 ≤ M.fuel - 1; omega) (by show M.fuel - 1 ≤ _; omega), _, fi, so, th, hb.setCell 49 _, hc.setFuel _, hs⟩
  · have hz : M.fuel ≤ 0 := by assumption
    have hz' : M.fuel ≠ 0 := by have : (M.fuel == 0) = false := by assumption
                                simpa using this
    have hz2 : ¬ 0 < M.fuel := by omega
    have e : M.stepped = M := by simp [DM.stepped, hoff, hz', hz2]
    rw [e]
    exact ⟨by simp [DM.steps, hoff, hz'], ⟨hok, cs, fi, so, th, hb, hc, hs⟩, Only.refl _ _⟩

theorem tot_step (F : Fs) (k : Nat) : tot F (k + 1) = tot F k + (((F k).getD noFile).1.size + ((F k).getD noFile).2.size) := by
  show tot F k + fsz (F k) = _
  rw [getD_fsz (o := F k) (fa := ((F k).getD noFile).1) (fb := ((F k).getD noFile).2) rfl]
theorem tot_mono {F : Fs} : ∀ {m n : Nat}, m ≤ n → tot F m ≤ tot F n
  | m, 0, h => by have : m = 0 := by omega
                  subst this; exact Nat.le_refl _
  | m, n + 1, h => by
    by_cases e : m = n + 1
    · subst e; exact Nat.le_refl _
    · have := tot_mono (F := F) (m := m) (n := n) (by omega)
      show tot F m ≤ tot F n + fsz (F n)
      omega

theorem rused_at (w : World) (r : Nat) (M : DM) (h : RefAt w r M) :
    Calls Try.prog 23 #[.pointer (some ⟨r, 0, none⟩)] w fun e w' => e = .returned (.int .i64 M.used) ∧ ∃ q, w' = w.drewN q := by
  go_enter Try.func23, Try.ntmps23
  go_wp2
  go_loopw [3, 4] (fun s i wr => ∃ (k t q : Nat), k ≤ 16 ∧ i = .int .i64 k ∧ s = .int .i64 t ∧ t = tot M.files k ∧ wr = w.drewN q) (fun _ i _ => 16 - (intOf i).toNat)
  case atStart => exact ⟨0, 0, 0, by omega, rfl, rfl, rfl, rfl⟩
  case round =>
    obtain ⟨k, t, q, hk, rfl, rfl, ht, rfl⟩ := hrel
    by_cases hlt : k < 16
    · have c1 := h.cFirm hlt
      have c2 := h.cSoft hlt
      have hm := tot_mono (F := M.files) (m := k + 1) (n := 16) (by omega)
      have hs := tot_step M.files k
      have hu := h.ok.used
      have hr := h.ok.room1
      unfold DM.used at hu
      obtain ⟨fa, ha⟩ : ∃ fa, ((M.files k).getD noFile).1 = fa := ⟨_, rfl⟩
      obtain ⟨fb, hb⟩ : ∃ fb, ((M.files k).getD noFile).2 = fb := ⟨_, rfl⟩
      rw [ha] at c1 hs
      rw [hb] at c2 hs
      have hi : (k : Int) < 16 := by omega
      have hi0 : (0 : Int) ≤ (k : Int) := by omega
      have hb1 : t + (fa.size + fb.size) ≤ 1048576 := by omega
      have HS := Lib.hid (show t + (fa.size + fb.size) = tot M.files (k + 1) by omega)
      clear ht ha hb hs hm hu hr
      have hw1 : IntKind.i64.wrap ((fa.size : Int) + (fb.size : Int)) = (fa.size : Int) + (fb.size : Int) := IntWalk.i64_in _ (by omega)
      have hw2 : IntKind.i64.wrap ((t : Int) + ((fa.size : Int) + (fb.size : Int))) = (t : Int) + ((fa.size : Int) + (fb.size : Int)) := IntWalk.i64_in _ (by omega)
      go_wp2_with fail
      go_quiet (fail)
      clear hw1 hw2
      go_wp2_with fail
      go_roundw
      case rel => exact ⟨k + 1, t + (fa.size + fb.size), _, by omega, by go_num, by go_num, HS.out, rfl⟩
      case measure => simp [intOf]; omega
    · have e : k = 16 := by omega
      subst e
      have HT := Lib.hid ht
      clear ht
      go_wp2
      go_ret
      exact ⟨by rw [HT.out]; rfl, q, rfl⟩

theorem Says.put {F : Fs} {fi so : Nat → ByteArray} {th : Nat → Bool} (hs : Says F fi so th) (n : Nat) (fa fb : ByteArray) : Says (F.put n (fa, fb)) (upd fi n fa) (upd so n fb) (upd th n true) := by
  refine ⟨fun i hi => ?_, fun i hi => ?_, fun i hi => ?_⟩ <;> by_cases e : i = n
  · subst e; simp [upd, Fs.put]
  · simp only [upd, Fs.put, if_neg e, if_neg (show ¬ ((i : Int) = (n : Int)) by omega)]; exact hs.firm i hi
  · subst e; simp [upd, Fs.put]
  · simp only [upd, Fs.put, if_neg e, if_neg (show ¬ ((i : Int) = (n : Int)) by omega)]; exact hs.soft i hi
  · subst e; simp [upd, Fs.put]
  · simp only [upd, Fs.put, if_neg e, if_neg (show ¬ ((i : Int) = (n : Int)) by omega)]; exact hs.there i hi
theorem Says.del {F : Fs} {fi so : Nat → ByteArray} {th : Nat → Bool} (hs : Says F fi so th) (n : Nat) : Says (F.del n) (upd fi n ByteArray.empty) (upd so n ByteArray.empty) (upd th n false) := by
  refine ⟨fun i hi => ?_, fun i hi => ?_, fun i hi => ?_⟩ <;> by_cases e : i = n
  · subst e; simp [upd, Fs.del, noFile]
  · simp only [upd, Fs.del, if_neg e, if_neg (show ¬ ((i : Int) = (n : Int)) by omega)]; exact hs.firm i hi
  · subst e; simp [upd, Fs.del, noFile]
  · simp only [upd, Fs.del, if_neg e, if_neg (show ¬ ((i : Int) = (n : Int)) by omega)]; exact hs.soft i hi
  · subst e; simp [upd, Fs.del]
  · simp only [upd, Fs.del, if_neg e, if_neg (show ¬ ((i : Int) = (n : Int)) by omega)]; exact hs.there i hi
theorem upd_same {α : Type} {f : Nat → α} {n : Nat} {v : α} (h : f n = v) : upd f n v = f := by
  funext i
  unfold upd
  by_cases e : i = n
  · rw [if_pos e, e, h]
  · rw [if_neg e]

def RAppEnd (M : DM) (n : Int) (s : ByteArray) (r : Nat) (w : World) (e : Ending) (w' : World) : Prop :=
  e = .returned (.int .i64 (M.appendE n s)) ∧ RefAt w' r (M.append n s) ∧ Only (fun k => k = r) w w'

theorem rappend_arg (w : World) (r : Nat) (M : DM) (n : Int) (s : ByteArray) (h : RefAt w r M) (hn : n < 0 ∨ 16 ≤ n) :
    Calls Try.prog 31 #[.pointer (some ⟨r, 0, none⟩), .int .i64 n, .string s] w (RAppEnd M n s r w) := by
  have HN := Lib.hid hn
  go_enter Try.func31, Try.ntmps31
  go_wp2_with (first | (go_at_call 43; refine (rno_yes _ _ (by omega)).mono ?_; rintro e w1 ⟨rfl, rfl⟩))
  go_ret
  exact ⟨by simp [DM.appendE, HN.out], by simpa [DM.append, HN.out] using h, Only.refl _ _⟩

theorem rappend_off (w : World) (r : Nat) (M : DM) (n : Int) (s : ByteArray) (h : RefAt w r M) (hn0 : 0 ≤ n) (hn1 : n < 16) (hoff : M.off = true) :
    Calls Try.prog 31 #[.pointer (some ⟨r, 0, none⟩), .int .i64 n, .string s] w (RAppEnd M n s r w) := by
  have c := h.cOff
  rw [hoff] at c
  have hx : ¬ (n < 0 ∨ 16 ≤ n) := by omega
  have HX := Lib.hid hx
  clear hx
  go_enter Try.func31, Try.ntmps31
  go_wp2_with (first | (go_at_call 43; refine (rno_no _ _ hn0 hn1).mono ?_; rintro e w1 ⟨rfl, rfl⟩))
  go_ret
  exact ⟨by simp [DM.appendE, HX.out, hoff], by simpa [DM.append, HX.out, hoff] using h, Only.refl _ _⟩

theorem rappend_at (w : World) (r : Nat) (M : DM) (n : Int) (s : ByteArray) (h : RefAt w r M) (hs : s.size ≤ 4611686018427387904) :
    Calls Try.prog 31 #[.pointer (some ⟨r, 0, none⟩), .int .i64 n, .string s] w (RAppEnd M n s r w) := by
  by_cases hn : n < 0 ∨ 16 ≤ n
  · exact rappend_arg w r M n s h hn
  · have hn0 : 0 ≤ n := by omega
    have hn1 : n < 16 := by omega
    cases hoff : M.off with
    | true => exact rappend_off w r M n s h hn0 hn1 hoff
    | false =>
      obtain ⟨m, rfl⟩ := Int.eq_ofNat_of_zero_le hn0
      have c := h.cOff
      rw [hoff] at c
      have cr := h.cRoom
      have r0 := h.ok.room0
      have r1 := h.ok.room1
      have ru := h.ok.used
      have HN := Lib.hid hn
      clear hn
      by_cases hfull : M.room < M.used + s.size
      · have hw1 : IntKind.i64.wrap ((M.used : Int) + (s.size : Int)) = (M.used : Int) + (s.size : Int) := IntWalk.i64_in _ (by omega)
        go_enter Try.func31, Try.ntmps31
        go_wp2_with (first | (go_at_call 43; refine (rno_no _ _ hn0 hn1).mono ?_; rintro e w1 ⟨rfl, rfl⟩))
        go_quiet ((go_at_call 23; exact Calls.quiet_of (rused_at _ r M (h.drewN _))))
        clear hw1
        go_wp2
        go_ret
        exact ⟨by simp [DM.appendE, HN.out, hoff, hfull], by simpa [DM.append, HN.out, hoff, hfull] using h.drewN _, (Only.refl _ _).drewN _⟩
      · have hw1 : IntKind.i64.wrap ((M.used : Int) + (s.size : Int)) = (M.used : Int) + (s.size : Int) := IntWalk.i64_in _ (by omega)
        have hfit : (M.used : Int) + (s.size : Int) ≤ M.room := by omega
        cases hst : M.steps with
        | false =>
          go_enter Try.func31, Try.ntmps31
          go_wp2_with (first | (go_at_call 43; refine (rno_no _ _ hn0 hn1).mono ?_; rintro e w1 ⟨rfl, rfl⟩))
          go_quiet ((go_at_call 23; exact Calls.quiet_of (rused_at _ r M (h.drewN _))))
          clear hw1
          go_wp2_with (first | (go_at_call 44; refine (rstep_at _ r M (h.drewN _) hoff).mono ?_; rintro e w2 ⟨rfl, hd2, ho2⟩))
          go_ret
          have hnf : ¬ (M.room < M.used + s.size) := by omega
          exact ⟨by simp [DM.appendE, HN.out, hoff, hnf, hst], by simpa [DM.append, HN.out, hoff, hnf, hst] using hd2, ((Only.refl _ _).drewN _).trans ho2⟩
        | true =>
          obtain ⟨fa, fb, hf⟩ : ∃ fa fb, (M.files m).getD noFile = (fa, fb) := ⟨_, _, rfl⟩
          have hsm := h.ok.small hn0 hn1 hf
          go_enter Try.func31, Try.ntmps31
          go_wp2_with (first | (go_at_call 43; refine (rno_no _ _ hn0 hn1).mono ?_; rintro e w1 ⟨rfl, rfl⟩))
          go_quiet ((go_at_call 23; exact Calls.quiet_of (rused_at _ r M (h.drewN _))))
          clear hw1
          go_wp2_with (first | (go_at_call 44; refine (rstep_at _ r M (h.drewN _) hoff).mono ?_; rintro e w2 ⟨rfl, hd2, ho2⟩))
          have k1 := hd2.cSoft (n := m) (by omega)
          rw [stepped_files, hf] at k1
          have k2 := hd2.cThere (n := m) (by omega)
          have f1 := hd2.free (16 + m)
          have f2 := hd2.free (32 + m)
          have hcat : (9223372036854775807 < fb.size + s.size) = False := by simp; omega
          refine wp_region_tail 11 (by kernel_rfl) (by kernel_rfl) ?_
          simp only [List.take_succ_cons, List.take_zero, List.drop_succ_cons, List.drop_zero]
          repeat still_step
          refine wpStill_nil ?_
          clear hcat
          go_wp2
          go_ret
          have hm : m < 16 := by omega
          have hnf : ¬ (M.room < M.used + s.size) := by omega
          have hok : DM.Ok { M.stepped with files := M.files.put m (fa, fb ++ s) } := by
            have := hd2.ok.put (n := (m : Int)) (f := (fa, fb ++ s)) hn0 hn1 (by
              rw [stepped_files, stepped_room, getD_fsz hf, show (M.stepped).used = M.used from by unfold DM.used; rw [stepped_files]]
              simp only [ByteArray.size_append]
              omega)
            rw [stepped_files] at this
            exact this
          obtain ⟨_, cs, fi, so, th, hb, hc, hsay⟩ := hd2
          rw [stepped_files] at hsay
          have hfi : fi m = fa := by rw [hsay.firm m hm, hf]
          have hsay2 := hsay.put m fa (fb ++ s)
          rw [upd_same hfi] at hsay2
          refine ⟨by simp [DM.appendE, HN.out, hoff, hnf, hst], ?_, ?_⟩
          · have e : M.append m s = { M.stepped with files := M.files.put m (fa, fb ++ s) } := by simp [DM.append, HN.out, hoff, hnf, hst, hf]
            rw [e]
            exact ⟨hok, _, fi, _, _, ((hb.setCell (16 + m) _).setCell (32 + m) _).drew, (hc.setSoft hm _).setThere hm _, hsay2⟩
          · exact (((((Only.refl (fun k => k = r) w).drewN nq).trans ho2).setCell (fun _ => rfl) _).setCell (fun _ => rfl) _).drew

end Go.Proofs.Ytdinkbmajcpnbaa
