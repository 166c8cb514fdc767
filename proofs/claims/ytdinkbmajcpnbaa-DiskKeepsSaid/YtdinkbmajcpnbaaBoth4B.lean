/- One call of the disk and of the document's disk: Fuel, Crash, any other kind; all kinds together. -/
import Derived.Test.YtdinkbmajcpnbaaBoth4
namespace Go.Proofs.Ytdinkbmajcpnbaa
open Go.RowKit Go.Maps

theorem both_other (w : World) (d mb r : Nat) (M : DM) (kind n : Int) (s : ByteArray) (fuel : Int) (kv : Value) (h : Pair w d mb r M) (hk : kind < 0 ∨ 5 < kind) :
    Calls Try.prog 16 #[.pointer (some ⟨d, 0, none⟩), .pointer (some ⟨r, 0, none⟩), .agg #[.int .i64 kind, .int .i64 n, .string s, .int .i64 fuel, kv]] w
      fun e w' => e = .returned (.tuple #[.pointer (some ⟨d, 0, none⟩), .pointer (some ⟨r, 0, none⟩), .bool true]) ∧ Pair w' d mb r M ∧ Only (fun k => k = d ∨ k = mb ∨ k = r) w w' := by
  have e0 : (kind == 0) = false := by simp; omega
  have e1 : (kind == 1) = false := by simp; omega
  have e2 : (kind == 2) = false := by simp; omega
  have e3 : (kind == 3) = false := by simp; omega
  have e4 : (kind == 4) = false := by simp; omega
  have e5 : (kind == 5) = false := by simp; omega
  go_enter Try.func16, Try.ntmps16
  go_wp2
  go_ret3
  have hn := (Only.refl NoBlock w).alloc (Obj.cells #[.int .i64 kind, .int .i64 n, .string s, .int .i64 fuel, kv] 37)
  exact ⟨rfl, h.keeps hn (fun h => h) (fun h => h) (fun h => h), hn.of_no⟩

theorem wf_le {x : Int} (h : (Lit.int .i64 x).wf = true) : x ≤ 9223372036854775807 := by
  have hb := (by simpa [Lit.wf] using h : IntKind.i64.min ≤ x ∧ x ≤ 9223372036854775807)
  exact hb.2
theorem RefAt.fueled {w : World} {r : Nat} {M : DM} (h : RefAt w r M) (n : Int) (h0 : -1 ≤ n) (h1 : n ≤ 9223372036854775807) : RefAt (w.setCell ⟨r, 49, none⟩ (.int .i64 n)) r { M with fuel := n } := by
  obtain ⟨hk, cs, fi, so, th, hb, hc, hs⟩ := h
  exact ⟨hk.with rfl rfl h0 h1, _, fi, so, th, hb.setCell 49 _, hc.setFuel n, hs⟩

theorem both_fuel (w : World) (d mb r : Nat) (M : DM) (n : Int) (s : ByteArray) (fuel : Int) (kv : Value) (h : Pair w d mb r M) (hw : (Lit.int .i64 fuel).wf = true) :
    Calls Try.prog 16 #[.pointer (some ⟨d, 0, none⟩), .pointer (some ⟨r, 0, none⟩), .agg #[.int .i64 4, .int .i64 n, .string s, .int .i64 fuel, kv]] w
      fun e w' => e = .returned (.tuple #[.pointer (some ⟨d, 0, none⟩), .pointer (some ⟨r, 0, none⟩), .bool true]) ∧ Pair w' d mb r (M.setFuel fuel) ∧ Only (fun k => k = d ∨ k = mb ∨ k = r) w w' := by
  have h1 := h.ne1
  have h2 := h.ne2
  have hd := h.disk
  have hr := h.ref
  have hdl := hd.blk.lt
  have hml := hd.files.lt
  have hrl := hr.lt
  have hfl : fuel ≤ 9223372036854775807 := wf_le hw
  go_enter Try.func16, Try.ntmps16
  go_wp2_with fail
  have hn := (Only.refl NoBlock w).alloc (Obj.cells #[.int .i64 4, .int .i64 n, .string s, .int .i64 fuel, kv] 37)
  have hbx := Blk.made w #[.int .i64 4, .int .i64 n, .string s, .int .i64 fuel, kv] 37
  generalize w.alloc (Obj.cells #[.int .i64 4, .int .i64 n, .string s, .int .i64 fuel, kv] 37) = w1 at hn hbx ⊢
  have hd1 := hd.keeps hn (fun h => h) (fun h => h)
  have hr1 := hr.keeps hn (fun h => h)
  have b1 : w1.cell? ⟨w.heap.size, 3, none⟩ = some (.int .i64 fuel) := by rw [hbx.cell]; rfl
  have hne1 : w.heap.size ≠ d := by omega
  have hne2 : w.heap.size ≠ mb := by omega
  have hne3 : w.heap.size ≠ r := by omega
  refine (fuel_at w1 d mb M fuel hfl hd1).mono ?_
  rintro e w2 ⟨rfl, hd2, ho2⟩
  have b3 := keeps2 ho2 hne1 hne2 b1
  have hr2 := hr1.keeps2 ho2 h1 h2
  have c2 := hr2.cFuel
  have f2 := hr2.free 49
  go_wp2_with fail
  all_goals go_ret3
  · have hf : fuel < -1 := by assumption
    have e : M.setFuel fuel = { M with fuel := -1 } := by simp [DM.setFuel, hf]
    have q : Only (fun k => k = r) w2 (w2.setCell ⟨r, 49, none⟩ (.int .i64 (-1))) := Only.one (S := fun k => k = r) rfl _
    rw [e] at hd2 ⊢
    refine ⟨rfl, ⟨hd2.keeps q (fun e => h1 e.symm) (fun e => h2 e.symm), hr2.fueled (-1) (by omega) (by omega)⟩, ?_⟩
    have q1 : Only (fun k => k = d ∨ k = mb ∨ k = r) w w1 := hn.of_no
    exact (q1.trans (ho2.mono (fun i hi => hi.elim Or.inl (fun e => Or.inr (Or.inl e))))).trans (q.mono (fun i hi => Or.inr (Or.inr hi)))
  · have hf : ¬ fuel < -1 := by have : -1 ≤ fuel := by assumption
                                omega
    have e : M.setFuel fuel = { M with fuel := fuel } := by simp [DM.setFuel, hf]
    have q : Only (fun k => k = r) w2 (w2.setCell ⟨r, 49, none⟩ (.int .i64 fuel)) := Only.one (S := fun k => k = r) rfl _
    rw [e] at hd2 ⊢
    refine ⟨rfl, ⟨hd2.keeps q (fun e => h1 e.symm) (fun e => h2 e.symm), hr2.fueled fuel (by omega) hfl⟩, ?_⟩
    have q1 : Only (fun k => k = d ∨ k = mb ∨ k = r) w w1 := hn.of_no
    exact (q1.trans (ho2.mono (fun i hi => hi.elim Or.inl (fun e => Or.inr (Or.inl e))))).trans (q.mono (fun i hi => Or.inr (Or.inr hi)))

theorem both_crash (w : World) (d mb r : Nat) (M : DM) (n : Int) (s : ByteArray) (fuel : Int) (ao : Option Addr) (cap : Nat) (l : List Int) (h : Pair w d mb r M) (hl : IntsIn w ao l) :
    Calls Try.prog 16 #[.pointer (some ⟨d, 0, none⟩), .pointer (some ⟨r, 0, none⟩), .agg #[.int .i64 5, .int .i64 n, .string s, .int .i64 fuel, .slice ao l.length cap]] w
      fun e w' => ∃ d' mb' r', e = .returned (.tuple #[.pointer (some ⟨d', 0, none⟩), .pointer (some ⟨r', 0, none⟩), .bool true]) ∧ Pair w' d' mb' r' (M.crash (keepOf l)) ∧ Only NoBlock w w' ∧ w.heap.size ≤ d' ∧ w.heap.size ≤ mb' ∧ w.heap.size ≤ r' := by
  have hd := h.disk
  have hr := h.ref
  go_enter Try.func16, Try.ntmps16
  go_wp2_with fail
  have hn := (Only.refl NoBlock w).alloc (Obj.cells #[.int .i64 5, .int .i64 n, .string s, .int .i64 fuel, .slice ao l.length cap] 37)
  have hbx := Blk.made w #[.int .i64 5, .int .i64 n, .string s, .int .i64 fuel, .slice ao l.length cap] 37
  generalize w.alloc (Obj.cells #[.int .i64 5, .int .i64 n, .string s, .int .i64 fuel, .slice ao l.length cap] 37) = w1 at hn hbx ⊢
  have hd1 := hd.keeps hn (fun h => h) (fun h => h)
  have hr1 := hr.keeps hn (fun h => h)
  have hl1 := hl.keeps hn (fun _ _ h => h)
  have b1 : w1.cell? ⟨w.heap.size, 4, none⟩ = some (.slice ao l.length cap) := by rw [hbx.cell]; rfl
  have hws := hn.size
  go_region_held3 (fun w' => w'.cell? ⟨w.heap.size, 4, none⟩ = some (.slice ao l.length cap))
    (first | exact b1 | assumption | go_keep)
    (first
      | (go_at_call 17; refine (crash_at _ d mb M ao cap l hd1.drew (hl1.keeps ((Only.refl NoBlock w1).drew) (fun _ _ h => h))).mono ?_; rintro e w2 ⟨rfl, hd2, ho2⟩; have b3 := keeps_cell (a := ⟨w.heap.size, 4, none⟩) ho2 (fun h => h) b1; have hr2 := hr1.drew.keeps ho2 (fun h => h); have hl2 := hl1.keeps (((Only.refl NoBlock w1).drew).trans ho2) (fun _ _ h => h))
      | (go_at_call 35; refine (rcrash_at _ r M ao cap l hr2 hl2).mono ?_; rintro e w3 ⟨rfl, hr3, ho3⟩; have b5 := keeps_cell (a := ⟨w.heap.size, 4, none⟩) ho3 (fun h => h) b3))
  go_wp2
  go_ret3
  have hs2 := ho2.size
  have hq : w1.heap.size ≤ w2.heap.size := hs2
  exact ⟨_, _, _, rfl, ⟨hd2.keeps ho3 (fun h => h) (fun h => h), hr3⟩, (hn.drew.trans ho2).trans ho3, by show w.heap.size ≤ w1.heap.size + 1; omega, by show w.heap.size ≤ w1.heap.size; omega, by show w.heap.size ≤ w2.heap.size; omega⟩

theorem both_at (w : World) (d mb r : Nat) (M : DM) (c : CallD) (h : Pair w d mb r M) (hc : c.Ok w) :
    Calls Try.prog 16 #[.pointer (some ⟨d, 0, none⟩), .pointer (some ⟨r, 0, none⟩), c.val] w (BothEnd M c d mb r w) := by
  have same : ∀ {M' : DM}, M.call c = M' → ∀ {e : Ending} {w' : World}, (e = .returned (.tuple #[.pointer (some ⟨d, 0, none⟩), .pointer (some ⟨r, 0, none⟩), .bool true]) ∧ Pair w' d mb r M' ∧ Only (fun k => k = d ∨ k = mb ∨ k = r) w w') → BothEnd M c d mb r w e w' := by
    intro M' hM e w' ⟨h1, h2, h3⟩
    subst hM
    exact ⟨d, mb, r, h1, h2, h3, Or.inl ⟨rfl, rfl, rfl⟩⟩
  obtain ⟨kind, n, s, fuel, ao, cap, l⟩ := c
  unfold CallD.val
  by_cases k0 : kind = 0
  · subst k0; exact (both_append w d mb r M n s fuel _ h hc.n hc.s).mono fun e w' q => same rfl q
  by_cases k1 : kind = 1
  · subst k1; exact (both_sync w d mb r M n s fuel _ h hc.n hc.s).mono fun e w' q => same rfl q
  by_cases k2 : kind = 2
  · subst k2; exact (both_replace w d mb r M n s fuel _ h hc.n hc.s).mono fun e w' q => same rfl q
  by_cases k3 : kind = 3
  · subst k3; exact (both_remove w d mb r M n s fuel _ h hc.n hc.s).mono fun e w' q => same rfl q
  by_cases k4 : kind = 4
  · subst k4; exact (both_fuel w d mb r M n s fuel _ h hc.fuel).mono fun e w' q => same rfl q
  by_cases k5 : kind = 5
  · subst k5
    exact (both_crash w d mb r M n s fuel ao cap l h hc.keep).mono fun e w' ⟨d', mb', r', q1, q2, q3, q4⟩ => ⟨d', mb', r', q1, q2, q3.of_no, Or.inr q4⟩
  · exact (both_other w d mb r M kind n s fuel _ h (by omega)).mono fun e w' q => same (by simp [DM.call, k0, k1, k2, k3, k4, k5]) q

end Go.Proofs.Ytdinkbmajcpnbaa
