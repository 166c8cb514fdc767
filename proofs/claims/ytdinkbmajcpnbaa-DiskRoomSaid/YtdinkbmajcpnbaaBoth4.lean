/- One call of the disk and of the document's disk: the same answer, and both are the same plain disk behind it. -/
import Derived.Test.YtdinkbmajcpnbaaRef4D
namespace Go.Proofs.Ytdinkbmajcpnbaa
open Go.RowKit Go.Maps

structure CallD where
  kind : Int
  n : Int
  s : ByteArray
  fuel : Int
  ao : Option Addr
  cap : Nat
  keep : List Int
def CallD.val (c : CallD) : Value := .agg #[.int .i64 c.kind, .int .i64 c.n, .string c.s, .int .i64 c.fuel, .slice c.ao c.keep.length c.cap]
structure CallD.Ok (w : World) (c : CallD) : Prop where
  n : (Lit.int .i64 c.n).wf = true
  s : c.s.size ≤ 4611686018427387904
  fuel : (Lit.int .i64 c.fuel).wf = true
  keep : IntsIn w c.ao c.keep

/-- what the call makes of the disk -/
def DM.call (M : DM) (c : CallD) : DM :=
  if c.kind = 0 then M.append c.n c.s else if c.kind = 1 then M.sync c.n else if c.kind = 2 then M.replace c.n c.s else if c.kind = 3 then M.remove c.n else if c.kind = 4 then M.setFuel c.fuel else if c.kind = 5 then M.crash (keepOf c.keep) else M

/-- a disk and a document's disk that are the same plain disk -/
structure Pair (w : World) (d mb r : Nat) (M : DM) : Prop where
  disk : DiskAt w d mb M
  ref : RefAt w r M

theorem Pair.ne1 {w : World} {d mb r : Nat} {M : DM} (h : Pair w d mb r M) : r ≠ d := by
  intro e
  obtain ⟨_, cs, fi, so, th, hb, _⟩ := h.ref
  have h1 := h.disk.blk
  unfold Blk at hb h1
  rw [e, h1] at hb
  cases hb
theorem Pair.ne2 {w : World} {d mb r : Nat} {M : DM} (h : Pair w d mb r M) : r ≠ mb := by
  intro e
  obtain ⟨_, cs, fi, so, th, hb, _⟩ := h.ref
  obtain ⟨D, ⟨es, clock, h1, _⟩, _⟩ := h.disk.files
  unfold Blk at hb
  rw [e, h1] at hb
  cases hb
theorem Pair.keeps {S : Nat → Prop} {w w' : World} {d mb r : Nat} {M : DM} (h : Pair w d mb r M) (ho : Only S w w') (h1 : ¬ S d) (h2 : ¬ S mb) (h3 : ¬ S r) : Pair w' d mb r M :=
  ⟨h.disk.keeps ho h1 h2, h.ref.keeps ho h3⟩

theorem keeps2 {w w' : World} {d mb b off : Nat} {v : Value} (ho : Only (fun k => k = d ∨ k = mb) w w') (h1 : b ≠ d) (h2 : b ≠ mb) (h : w.cell? ⟨b, off, none⟩ = some v) : w'.cell? ⟨b, off, none⟩ = some v :=
  keeps_cell (a := ⟨b, off, none⟩) ho (fun e => e.elim h1 h2) h
theorem keeps1 {w w' : World} {r b off : Nat} {v : Value} (ho : Only (fun k => k = r) w w') (h1 : b ≠ r) (h : w.cell? ⟨b, off, none⟩ = some v) : w'.cell? ⟨b, off, none⟩ = some v :=
  keeps_cell (a := ⟨b, off, none⟩) ho h1 h
theorem RefAt.keeps2 {w w' : World} {r d mb : Nat} {M : DM} (h : RefAt w r M) (ho : Only (fun k => k = d ∨ k = mb) w w') (h1 : r ≠ d) (h2 : r ≠ mb) : RefAt w' r M := h.keeps ho (fun e => e.elim h1 h2)
theorem rappend_as {w : World} {r : Nat} {M : DM} {n : Int} {s : ByteArray} (h : RefAt w r M) (hs : s.size ≤ 4611686018427387904) {k : Int} {M' : DM} (hk : M.appendE n s = k) (hM : M.append n s = M') :
    Calls Try.prog 31 #[.pointer (some ⟨r, 0, none⟩), .int .i64 n, .string s] w fun e w' => e = .returned (.int .i64 k) ∧ RefAt w' r M' ∧ Only (fun k => k = r) w w' := by
  subst hk; subst hM; exact rappend_at w r M n s h hs
theorem rreplace_as {w : World} {r : Nat} {M : DM} {n : Int} {s : ByteArray} (h : RefAt w r M) (hs : s.size ≤ 4611686018427387904) {k : Int} {M' : DM} (hk : M.replaceE n s = k) (hM : M.replace n s = M') :
    Calls Try.prog 33 #[.pointer (some ⟨r, 0, none⟩), .int .i64 n, .string s] w fun e w' => e = .returned (.int .i64 k) ∧ RefAt w' r M' ∧ Only (fun k => k = r) w w' := by
  subst hk; subst hM; exact rreplace_at w r M n s h hs
theorem rsync_as {w : World} {r : Nat} {M : DM} {n : Int} (h : RefAt w r M) {k : Int} {M' : DM} (hk : M.syncE n = k) (hM : M.sync n = M') :
    Calls Try.prog 32 #[.pointer (some ⟨r, 0, none⟩), .int .i64 n] w fun e w' => e = .returned (.int .i64 k) ∧ RefAt w' r M' ∧ Only (fun k => k = r) w w' := by
  subst hk; subst hM; exact rsync_at w r M n h
theorem rremove_as {w : World} {r : Nat} {M : DM} {n : Int} (h : RefAt w r M) {k : Int} {M' : DM} (hk : M.removeE n = k) (hM : M.remove n = M') :
    Calls Try.prog 34 #[.pointer (some ⟨r, 0, none⟩), .int .i64 n] w fun e w' => e = .returned (.int .i64 k) ∧ RefAt w' r M' ∧ Only (fun k => k = r) w w' := by
  subst hk; subst hM; exact rremove_at w r M n h
theorem replace_as {w : World} {d mb : Nat} {M : DM} {n : Int} {s : ByteArray} (h : DiskAt w d mb M) (hw : (Lit.int .i64 n).wf = true) (hs : s.size ≤ 9223372036854775807) {k : Int} {M' : DM} (hk : M.replaceE n s = k) (hM : M.replace n s = M') :
    Calls Try.prog 26 #[.pointer (some ⟨d, 0, none⟩), .int .i64 n, .string s] w fun e w' => e = .returned (.int .i64 k) ∧ DiskAt w' d mb M' ∧ Only (fun k => k = d ∨ k = mb) w w' := by
  subst hk; subst hM; exact replace_at w d mb M n s h hw hs
theorem remove_as {w : World} {d mb : Nat} {M : DM} {n : Int} (h : DiskAt w d mb M) (hw : (Lit.int .i64 n).wf = true) {k : Int} {M' : DM} (hk : M.removeE n = k) (hM : M.remove n = M') :
    Calls Try.prog 28 #[.pointer (some ⟨d, 0, none⟩), .int .i64 n] w fun e w' => e = .returned (.int .i64 k) ∧ DiskAt w' d mb M' ∧ Only (fun k => k = d ∨ k = mb) w w' := by
  subst hk; subst hM; exact remove_at w d mb M n h hw

def BothEnd (M : DM) (c : CallD) (d mb r : Nat) (w : World) (e : Ending) (w' : World) : Prop :=
  ∃ d' mb' r', e = .returned (.tuple #[.pointer (some ⟨d', 0, none⟩), .pointer (some ⟨r', 0, none⟩), .bool true]) ∧ Pair w' d' mb' r' (M.call c) ∧ Only (fun k => k = d ∨ k = mb ∨ k = r) w w' ∧
    ((d' = d ∧ mb' = mb ∧ r' = r) ∨ (w.heap.size ≤ d' ∧ w.heap.size ≤ mb' ∧ w.heap.size ≤ r'))

theorem both_append (w : World) (d mb r : Nat) (M : DM) (n : Int) (s : ByteArray) (fuel : Int) (kv : Value) (h : Pair w d mb r M) (hw : (Lit.int .i64 n).wf = true) (hs : s.size ≤ 4611686018427387904) :
    Calls Try.prog 16 #[.pointer (some ⟨d, 0, none⟩), .pointer (some ⟨r, 0, none⟩), .agg #[.int .i64 0, .int .i64 n, .string s, .int .i64 fuel, kv]] w
      fun e w' => e = .returned (.tuple #[.pointer (some ⟨d, 0, none⟩), .pointer (some ⟨r, 0, none⟩), .bool true]) ∧ Pair w' d mb r (M.append n s) ∧ Only (fun k => k = d ∨ k = mb ∨ k = r) w w' := by
  obtain ⟨k, hk⟩ : ∃ k, M.appendE n s = k := ⟨_, rfl⟩
  have HK := Lib.hid hk
  clear hk
  have h1 := h.ne1
  have h2 := h.ne2
  have hd := h.disk
  have hr := h.ref
  have hdl := hd.blk.lt
  have hml := hd.files.lt
  have hrl := hr.lt
  have hs2 : s.size ≤ 9223372036854775807 := by omega
  go_enter Try.func16, Try.ntmps16
  go_wp2_with fail
  have hn := (Only.refl NoBlock w).alloc (Obj.cells #[.int .i64 0, .int .i64 n, .string s, .int .i64 fuel, kv] 37)
  have hbx := Blk.made w #[.int .i64 0, .int .i64 n, .string s, .int .i64 fuel, kv] 37
  generalize w.alloc (Obj.cells #[.int .i64 0, .int .i64 n, .string s, .int .i64 fuel, kv] 37) = w1 at hn hbx ⊢
  have hd1 := hd.keeps hn (fun h => h) (fun h => h)
  have hr1 := hr.keeps hn (fun h => h)
  have b1 : w1.cell? ⟨w.heap.size, 1, none⟩ = some (.int .i64 n) := by rw [hbx.cell]; rfl
  have b2 : w1.cell? ⟨w.heap.size, 2, none⟩ = some (.string s) := by rw [hbx.cell]; rfl
  have hne1 : w.heap.size ≠ d := by omega
  have hne2 : w.heap.size ≠ mb := by omega
  have hne3 : w.heap.size ≠ r := by omega
  go_region_held3 (fun w' => w'.cell? ⟨w.heap.size, 1, none⟩ = some (.int .i64 n) ∧ w'.cell? ⟨w.heap.size, 2, none⟩ = some (.string s))
    (first | exact ⟨b1, b2⟩ | exact ⟨by assumption, by assumption⟩ | go_keep)
    (first
      | (go_at_call 13; refine (append_as hd1.drew hs2 HK.out rfl).mono ?_; rintro e w2 ⟨rfl, hd2, ho2⟩; have b3 := keeps2 ho2 hne1 hne2 b1; have b4 := keeps2 ho2 hne1 hne2 b2; have hr2 := hr1.drew.keeps2 ho2 h1 h2)
      | (go_at_call 31; refine (rappend_as hr2 hs HK.out rfl).mono ?_; rintro e w3 ⟨rfl, hr3, ho3⟩; have b5 := keeps1 ho3 hne3 b3; have b6 := keeps1 ho3 hne3 b4))
  go_wp2
  go_ret3
  refine ⟨rfl, ⟨hd2.keeps ho3 (fun e => h1 e.symm) (fun e => h2 e.symm), hr3⟩, ?_⟩
  have q1 : Only (fun k => k = d ∨ k = mb ∨ k = r) w w1 := hn.of_no
  exact (q1.drew.trans (ho2.mono (fun i hi => hi.elim Or.inl (fun e => Or.inr (Or.inl e))))).trans (ho3.mono (fun i hi => Or.inr (Or.inr hi)))

theorem both_sync (w : World) (d mb r : Nat) (M : DM) (n : Int) (s : ByteArray) (fuel : Int) (kv : Value) (h : Pair w d mb r M) (hw : (Lit.int .i64 n).wf = true) (hs : s.size ≤ 4611686018427387904) :
    Calls Try.prog 16 #[.pointer (some ⟨d, 0, none⟩), .pointer (some ⟨r, 0, none⟩), .agg #[.int .i64 1, .int .i64 n, .string s, .int .i64 fuel, kv]] w
      fun e w' => e = .returned (.tuple #[.pointer (some ⟨d, 0, none⟩), .pointer (some ⟨r, 0, none⟩), .bool true]) ∧ Pair w' d mb r (M.sync n) ∧ Only (fun k => k = d ∨ k = mb ∨ k = r) w w' := by
  obtain ⟨k, hk⟩ : ∃ k, M.syncE n = k := ⟨_, rfl⟩
  have HK := Lib.hid hk
  clear hk
  have h1 := h.ne1
  have h2 := h.ne2
  have hd := h.disk
  have hr := h.ref
  have hdl := hd.blk.lt
  have hml := hd.files.lt
  have hrl := hr.lt
  have hs2 : s.size ≤ 9223372036854775807 := by omega
  go_enter Try.func16, Try.ntmps16
  go_wp2_with fail
  have hn := (Only.refl NoBlock w).alloc (Obj.cells #[.int .i64 1, .int .i64 n, .string s, .int .i64 fuel, kv] 37)
  have hbx := Blk.made w #[.int .i64 1, .int .i64 n, .string s, .int .i64 fuel, kv] 37
  generalize w.alloc (Obj.cells #[.int .i64 1, .int .i64 n, .string s, .int .i64 fuel, kv] 37) = w1 at hn hbx ⊢
  have hd1 := hd.keeps hn (fun h => h) (fun h => h)
  have hr1 := hr.keeps hn (fun h => h)
  have b1 : w1.cell? ⟨w.heap.size, 1, none⟩ = some (.int .i64 n) := by rw [hbx.cell]; rfl
  have b2 : w1.cell? ⟨w.heap.size, 2, none⟩ = some (.string s) := by rw [hbx.cell]; rfl
  have hne1 : w.heap.size ≠ d := by omega
  have hne2 : w.heap.size ≠ mb := by omega
  have hne3 : w.heap.size ≠ r := by omega
  go_region_held3 (fun w' => w'.cell? ⟨w.heap.size, 1, none⟩ = some (.int .i64 n) ∧ w'.cell? ⟨w.heap.size, 2, none⟩ = some (.string s))
    (first | exact ⟨b1, b2⟩ | exact ⟨by assumption, by assumption⟩ | go_keep)
    (first
      | (go_at_call 27; refine (sync_as hd1.drew hw HK.out rfl).mono ?_; rintro e w2 ⟨rfl, hd2, ho2⟩; have b3 := keeps2 ho2 hne1 hne2 b1; have b4 := keeps2 ho2 hne1 hne2 b2; have hr2 := hr1.drew.keeps2 ho2 h1 h2)
      | (go_at_call 32; refine (rsync_as hr2 HK.out rfl).mono ?_; rintro e w3 ⟨rfl, hr3, ho3⟩; have b5 := keeps1 ho3 hne3 b3; have b6 := keeps1 ho3 hne3 b4))
  go_wp2
  go_ret3
  refine ⟨rfl, ⟨hd2.keeps ho3 (fun e => h1 e.symm) (fun e => h2 e.symm), hr3⟩, ?_⟩
  have q1 : Only (fun k => k = d ∨ k = mb ∨ k = r) w w1 := hn.of_no
  exact (q1.drew.trans (ho2.mono (fun i hi => hi.elim Or.inl (fun e => Or.inr (Or.inl e))))).trans (ho3.mono (fun i hi => Or.inr (Or.inr hi)))

theorem both_replace (w : World) (d mb r : Nat) (M : DM) (n : Int) (s : ByteArray) (fuel : Int) (kv : Value) (h : Pair w d mb r M) (hw : (Lit.int .i64 n).wf = true) (hs : s.size ≤ 4611686018427387904) :
    Calls Try.prog 16 #[.pointer (some ⟨d, 0, none⟩), .pointer (some ⟨r, 0, none⟩), .agg #[.int .i64 2, .int .i64 n, .string s, .int .i64 fuel, kv]] w
      fun e w' => e = .returned (.tuple #[.pointer (some ⟨d, 0, none⟩), .pointer (some ⟨r, 0, none⟩), .bool true]) ∧ Pair w' d mb r (M.replace n s) ∧ Only (fun k => k = d ∨ k = mb ∨ k = r) w w' := by
  obtain ⟨k, hk⟩ : ∃ k, M.replaceE n s = k := ⟨_, rfl⟩
  have HK := Lib.hid hk
  clear hk
  have h1 := h.ne1
  have h2 := h.ne2
  have hd := h.disk
  have hr := h.ref
  have hdl := hd.blk.lt
  have hml := hd.files.lt
  have hrl := hr.lt
  have hs2 : s.size ≤ 9223372036854775807 := by omega
  go_enter Try.func16, Try.ntmps16
  go_wp2_with fail
  have hn := (Only.refl NoBlock w).alloc (Obj.cells #[.int .i64 2, .int .i64 n, .string s, .int .i64 fuel, kv] 37)
  have hbx := Blk.made w #[.int .i64 2, .int .i64 n, .string s, .int .i64 fuel, kv] 37
  generalize w.alloc (Obj.cells #[.int .i64 2, .int .i64 n, .string s, .int .i64 fuel, kv] 37) = w1 at hn hbx ⊢
  have hd1 := hd.keeps hn (fun h => h) (fun h => h)
  have hr1 := hr.keeps hn (fun h => h)
  have b1 : w1.cell? ⟨w.heap.size, 1, none⟩ = some (.int .i64 n) := by rw [hbx.cell]; rfl
  have b2 : w1.cell? ⟨w.heap.size, 2, none⟩ = some (.string s) := by rw [hbx.cell]; rfl
  have hne1 : w.heap.size ≠ d := by omega
  have hne2 : w.heap.size ≠ mb := by omega
  have hne3 : w.heap.size ≠ r := by omega
  go_region_held3 (fun w' => w'.cell? ⟨w.heap.size, 1, none⟩ = some (.int .i64 n) ∧ w'.cell? ⟨w.heap.size, 2, none⟩ = some (.string s))
    (first | exact ⟨b1, b2⟩ | exact ⟨by assumption, by assumption⟩ | go_keep)
    (first
      | (go_at_call 26; refine (replace_as hd1.drew hw hs2 HK.out rfl).mono ?_; rintro e w2 ⟨rfl, hd2, ho2⟩; have b3 := keeps2 ho2 hne1 hne2 b1; have b4 := keeps2 ho2 hne1 hne2 b2; have hr2 := hr1.drew.keeps2 ho2 h1 h2)
      | (go_at_call 33; refine (rreplace_as hr2 hs HK.out rfl).mono ?_; rintro e w3 ⟨rfl, hr3, ho3⟩; have b5 := keeps1 ho3 hne3 b3; have b6 := keeps1 ho3 hne3 b4))
  go_wp2
  go_ret3
  refine ⟨rfl, ⟨hd2.keeps ho3 (fun e => h1 e.symm) (fun e => h2 e.symm), hr3⟩, ?_⟩
  have q1 : Only (fun k => k = d ∨ k = mb ∨ k = r) w w1 := hn.of_no
  exact (q1.drew.trans (ho2.mono (fun i hi => hi.elim Or.inl (fun e => Or.inr (Or.inl e))))).trans (ho3.mono (fun i hi => Or.inr (Or.inr hi)))

theorem both_remove (w : World) (d mb r : Nat) (M : DM) (n : Int) (s : ByteArray) (fuel : Int) (kv : Value) (h : Pair w d mb r M) (hw : (Lit.int .i64 n).wf = true) (hs : s.size ≤ 4611686018427387904) :
    Calls Try.prog 16 #[.pointer (some ⟨d, 0, none⟩), .pointer (some ⟨r, 0, none⟩), .agg #[.int .i64 3, .int .i64 n, .string s, .int .i64 fuel, kv]] w
      fun e w' => e = .returned (.tuple #[.pointer (some ⟨d, 0, none⟩), .pointer (some ⟨r, 0, none⟩), .bool true]) ∧ Pair w' d mb r (M.remove n) ∧ Only (fun k => k = d ∨ k = mb ∨ k = r) w w' := by
  obtain ⟨k, hk⟩ : ∃ k, M.removeE n = k := ⟨_, rfl⟩
  have HK := Lib.hid hk
  clear hk
  have h1 := h.ne1
  have h2 := h.ne2
  have hd := h.disk
  have hr := h.ref
  have hdl := hd.blk.lt
  have hml := hd.files.lt
  have hrl := hr.lt
  have hs2 : s.size ≤ 9223372036854775807 := by omega
  go_enter Try.func16, Try.ntmps16
  go_wp2_with fail
  have hn := (Only.refl NoBlock w).alloc (Obj.cells #[.int .i64 3, .int .i64 n, .string s, .int .i64 fuel, kv] 37)
  have hbx := Blk.made w #[.int .i64 3, .int .i64 n, .string s, .int .i64 fuel, kv] 37
  generalize w.alloc (Obj.cells #[.int .i64 3, .int .i64 n, .string s, .int .i64 fuel, kv] 37) = w1 at hn hbx ⊢
  have hd1 := hd.keeps hn (fun h => h) (fun h => h)
  have hr1 := hr.keeps hn (fun h => h)
  have b1 : w1.cell? ⟨w.heap.size, 1, none⟩ = some (.int .i64 n) := by rw [hbx.cell]; rfl
  have b2 : w1.cell? ⟨w.heap.size, 2, none⟩ = some (.string s) := by rw [hbx.cell]; rfl
  have hne1 : w.heap.size ≠ d := by omega
  have hne2 : w.heap.size ≠ mb := by omega
  have hne3 : w.heap.size ≠ r := by omega
  go_region_held3 (fun w' => w'.cell? ⟨w.heap.size, 1, none⟩ = some (.int .i64 n) ∧ w'.cell? ⟨w.heap.size, 2, none⟩ = some (.string s))
    (first | exact ⟨b1, b2⟩ | exact ⟨by assumption, by assumption⟩ | go_keep)
    (first
      | (go_at_call 28; refine (remove_as hd1.drew hw HK.out rfl).mono ?_; rintro e w2 ⟨rfl, hd2, ho2⟩; have b3 := keeps2 ho2 hne1 hne2 b1; have b4 := keeps2 ho2 hne1 hne2 b2; have hr2 := hr1.drew.keeps2 ho2 h1 h2)
      | (go_at_call 34; refine (rremove_as hr2 HK.out rfl).mono ?_; rintro e w3 ⟨rfl, hr3, ho3⟩; have b5 := keeps1 ho3 hne3 b3; have b6 := keeps1 ho3 hne3 b4))
  go_wp2
  go_ret3
  refine ⟨rfl, ⟨hd2.keeps ho3 (fun e => h1 e.symm) (fun e => h2 e.symm), hr3⟩, ?_⟩
  have q1 : Only (fun k => k = d ∨ k = mb ∨ k = r) w w1 := hn.of_no
  exact (q1.drew.trans (ho2.mono (fun i hi => hi.elim Or.inl (fun e => Or.inr (Or.inl e))))).trans (ho3.mono (fun i hi => Or.inr (Or.inr hi)))

end Go.Proofs.Ytdinkbmajcpnbaa
