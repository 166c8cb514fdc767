/- What the statements of this seat lean on, part I: what the program's and the document's functions compute, in plain data. -/
import Derived.Test.YtekmjhenhgmpgaaGreatMH
import Derived.BigRegion

/- The document's Save. -/
namespace Go.Proofs.YtekmjhenhgmpgaaGreat
open Go.RowKit
set_option maxRecDepth 100000

/-- what the document's Save and Anew leave -/
def RStoreEnd (k : Int) (M' : DM) (s' : St) (u g r : Nat) (w : World) (e : Ending) (w' : World) : Prop :=
  e = .returned (.int .i64 k) ∧ RefAt w' r M' ∧ RStoreAt w' u g s' ∧ Only (fun k => k = r ∨ k = u) w w'
theorem RStoreAt.lt {w : World} {u g : Nat} {s : St} (h : RStoreAt w u g s) : u < w.heap.size := by obtain ⟨_, _, hb, _⟩ := h.ex; exact hb.lt
theorem RStoreAt.keeps {S : Nat → Prop} {w w' : World} {u g : Nat} {s : St} (h : RStoreAt w u g s) (ho : Only S w w') (hu : ¬ S u) (hr : ∀ k : Nat, S k → ∀ e ∈ s.es, False) : RStoreAt w' u g s := by
  obtain ⟨h1, h2, ao, cap, hb, hl⟩ := h
  refine ⟨h1, h2, ao, cap, hb.keeps ho hu, ?_⟩
  by_cases he : s.es = []
  · rw [he]; exact EntsIn.nil _ _
  · obtain ⟨x, hx⟩ := List.exists_mem_of_ne_nil _ he
    exact hl.keeps ho (fun a _ hs => hr _ hs x hx)
theorem RefAt.noRow {w : World} {r off : Nat} {M : DM} {x : Int} (h : RefAt w r M) (h0 : w.cell? ⟨r, off, none⟩ = some (.int .u64 x)) : False := by
  obtain ⟨_, cs, fi, so, th, hb, hc, _⟩ := h
  rw [hb.cell] at h0
  by_cases h1 : off < 16
  · rw [hc.firm off h1] at h0; cases h0
  · by_cases h2 : off < 32
    · have := hc.soft (off - 16) (by omega)
      rw [show 16 + (off - 16) = off from by omega, h0] at this; cases this
    · by_cases h3 : off < 48
      · have := hc.there (off - 32) (by omega)
        rw [show 32 + (off - 32) = off from by omega, h0] at this; cases this
      · by_cases h4 : off = 48
        · subst h4; rw [hc.room] at h0; cases h0
        · by_cases h5 : off = 49
          · subst h5; rw [hc.fuel] at h0; cases h0
          · by_cases h6 : off = 50
            · subst h6; rw [hc.off] at h0; cases h0
            · have := hc.size
              rw [Array.getElem?_eq_none (by omega)] at h0; cases h0
/-- a row of entries does not lie in the document's disk or in its store -/
theorem EntsIn.keepsR {w w' : World} {ao : Option Addr} {l : List Ent} {r : Nat} {M : DM} (hl : EntsIn w ao l) (hd : RefAt w r M) (ho : Only (fun k => k = r) w w') : EntsIn w' ao l := by
  by_cases he : l = []
  · subst he; exact EntsIn.nil _ _
  · refine hl.keeps ho (fun a ha e => ?_)
    obtain ⟨b, off, e0, h0, h1, h2, h3⟩ := hl.cell 0 (List.length_pos_iff.2 he)
    rw [ha] at e0
    cases e0
    have e' : b = r := e
    subst e'
    exact RefAt.noRow hd h0
theorem EntsIn.keepsU {w w' : World} {ao : Option Addr} {l : List Ent} {u g : Nat} {h : Hrd} {s : Snp} {v : Value} {ty : TypeId} (hl : EntsIn w ao l) (hb : Blk w u #[.pointer (some ⟨g, 0, none⟩), .int .u64 h.term, .int .i64 h.vote, .int .u64 s.index, .int .u64 s.term, .int .u64 s.config, .string s.data, v] ty) (hv : ∃ a n c, v = .slice a n c) (ho : Only (fun k => k = u) w w') : EntsIn w' ao l := by
  obtain ⟨va, vn, vc, rfl⟩ := hv
  by_cases he : l = []
  · subst he; exact EntsIn.nil _ _
  · refine hl.keeps ho (fun a ha e => ?_)
    obtain ⟨b, off, e0, h0, h1, h2, h3⟩ := hl.cell 0 (List.length_pos_iff.2 he)
    rw [ha] at e0
    cases e0
    have e' : b = u := e
    subst e'
    simp only [Nat.zero_mul, Nat.add_zero] at h0 h1 h2 h3
    rw [hb.cell] at h0 h1 h2 h3
    match off with
    | 0 => simp at h0
    | 1 => simp at h1
    | 2 => simp at h0
    | 3 => simp at h2
    | 4 => simp at h2
    | n + 5 => simp at h3
theorem ref_apart {w : World} {r u : Nat} {M : DM} {cs : Array Value} (hd : RefAt w r M) (hb : Blk w u cs 55) : u ≠ r := by
  intro e
  subst e
  obtain ⟨_, cs', fi, so, th, h, _⟩ := hd
  unfold Blk at h hb
  rw [h] at hb
  cases hb

set_option maxHeartbeats 8000000 in
theorem rsave8_raw (w : World) (u g r : Nat) (M : DM) (n : Int) (t0 : Nat) (v0 : Int) (si st sc : Nat) (sd : ByteArray) (es : List Ent) (ao : Option Addr) (cap : Nat) (ht : Nat) (hv : Int) (aoL : Option Addr) (capL : Nat) (l : List Ent)
    (hh : (⟨ht, hv⟩ : Hrd).Wf) (hd : RefAt w r M) (hg : RLogAt w g r n) (hu : Blk w u #[.pointer (some ⟨g, 0, none⟩), .int .u64 t0, .int .i64 v0, .int .u64 si, .int .u64 st, .int .u64 sc, .string sd, .slice ao es.length cap] 55) (hsh : (⟨t0, v0⟩ : Hrd).Wf) (hss : (⟨si, st, sc, sd⟩ : Snp).Wf) (hin : EntsIn w ao es) (hel : es.length ≤ 100000000) (hed : ∀ e ∈ es, e.data.size ≤ 65536) (hl : EntsIn w aoL l) (hll : l.length ≤ 100000000) (hld : ∀ e ∈ l, e.data.size ≤ 1000000000) (hsz : (Wal.text (Sto.out ⟨⟨t0, v0⟩, ⟨si, st, sc, sd⟩, es⟩ ⟨ht, hv⟩ l)).size ≤ 1000000000) :
    Calls Tryz.prog 15 #[.pointer (some ⟨u, 0, none⟩), .agg #[.int .u64 ht, .int .i64 hv], .slice aoL l.length capL] w (RStoreEnd (Sto.saveE M n ⟨⟨t0, v0⟩, ⟨si, st, sc, sd⟩, es⟩ ⟨ht, hv⟩ l) (Sto.saveM M n ⟨⟨t0, v0⟩, ⟨si, st, sc, sd⟩, es⟩ ⟨ht, hv⟩ l) (Sto.saveS M n ⟨⟨t0, v0⟩, ⟨si, st, sc, sd⟩, es⟩ ⟨ht, hv⟩ l) u g r w) := by
  have hur := ref_apart hd hu
  have HSV : RowKit.Hid (Sto.saved ⟨⟨t0, v0⟩, ⟨si, st, sc, sd⟩, es⟩ ⟨ht, hv⟩ l = Sto.rightO (Sto.said ⟨⟨t0, v0⟩, ⟨si, st, sc, sd⟩, es⟩ (Sto.out ⟨⟨t0, v0⟩, ⟨si, st, sc, sd⟩, es⟩ ⟨ht, hv⟩ l))) := Lib.hid rfl
  have HSE : RowKit.Hid (Sto.saveE M n ⟨⟨t0, v0⟩, ⟨si, st, sc, sd⟩, es⟩ ⟨ht, hv⟩ l = match Sto.saved ⟨⟨t0, v0⟩, ⟨si, st, sc, sd⟩, es⟩ ⟨ht, hv⟩ l with | none => 1 | some _ => if (Sto.out ⟨⟨t0, v0⟩, ⟨si, st, sc, sd⟩, es⟩ ⟨ht, hv⟩ l).length = 0 then 0 else Wal.appE M n (Sto.out ⟨⟨t0, v0⟩, ⟨si, st, sc, sd⟩, es⟩ ⟨ht, hv⟩ l)) := Lib.hid rfl
  have HSM : RowKit.Hid (Sto.saveM M n ⟨⟨t0, v0⟩, ⟨si, st, sc, sd⟩, es⟩ ⟨ht, hv⟩ l = match Sto.saved ⟨⟨t0, v0⟩, ⟨si, st, sc, sd⟩, es⟩ ⟨ht, hv⟩ l with | none => M | some _ => if (Sto.out ⟨⟨t0, v0⟩, ⟨si, st, sc, sd⟩, es⟩ ⟨ht, hv⟩ l).length = 0 then M else Wal.app M n (Sto.out ⟨⟨t0, v0⟩, ⟨si, st, sc, sd⟩, es⟩ ⟨ht, hv⟩ l)) := Lib.hid rfl
  have HSS : RowKit.Hid (Sto.saveS M n ⟨⟨t0, v0⟩, ⟨si, st, sc, sd⟩, es⟩ ⟨ht, hv⟩ l = match Sto.saved ⟨⟨t0, v0⟩, ⟨si, st, sc, sd⟩, es⟩ ⟨ht, hv⟩ l with | none => ⟨⟨t0, v0⟩, ⟨si, st, sc, sd⟩, es⟩ | some s' => if (Sto.out ⟨⟨t0, v0⟩, ⟨si, st, sc, sd⟩, es⟩ ⟨ht, hv⟩ l).length = 0 then ⟨⟨t0, v0⟩, ⟨si, st, sc, sd⟩, es⟩ else if Wal.appE M n (Sto.out ⟨⟨t0, v0⟩, ⟨si, st, sc, sd⟩, es⟩ ⟨ht, hv⟩ l) = 0 then s' else ⟨⟨t0, v0⟩, ⟨si, st, sc, sd⟩, es⟩) := Lib.hid rfl
  have HREC : RowKit.Hid (∀ W : World, EntsIn W ao es → EntsIn W aoL l → Calls Tryz.prog 41 #[.agg #[.int .u64 t0, .int .i64 v0, .int .u64 si, .int .u64 st, .int .u64 sc, .string sd, .slice ao es.length cap], .agg #[.int .u64 ht, .int .i64 hv], .slice aoL l.length capL] W (RRecsEnd (Sto.out ⟨⟨t0, v0⟩, ⟨si, st, sc, sd⟩, es⟩ ⟨ht, hv⟩ l) ⟨⟨t0, v0⟩, ⟨si, st, sc, sd⟩, es⟩ (2 + l.length) W)) := Lib.hid (fun W h1 h2 => rrecs8_raw W t0 v0 si st sc sd es ao cap ht hv aoL capL l hh hsh hss h1 hel hed h2 hll hld hsz)
  have HU0 : RowKit.Hid (RStoreAt w u g ⟨⟨t0, v0⟩, ⟨si, st, sc, sd⟩, es⟩) := Lib.hid ⟨hsh, hss, ao, cap, hu, hin⟩
  generalize Sto.saved ⟨⟨t0, v0⟩, ⟨si, st, sc, sd⟩, es⟩ ⟨ht, hv⟩ l = sv at HSE HSM HSS HSV
  generalize Sto.out ⟨⟨t0, v0⟩, ⟨si, st, sc, sd⟩, es⟩ ⟨ht, hv⟩ l = Z at HSE HSM HSS HSV HREC hsz
  generalize Sto.saveE M n ⟨⟨t0, v0⟩, ⟨si, st, sc, sd⟩, es⟩ ⟨ht, hv⟩ l = KE at HSE ⊢
  generalize Sto.saveM M n ⟨⟨t0, v0⟩, ⟨si, st, sc, sd⟩, es⟩ ⟨ht, hv⟩ l = KM at HSM ⊢
  generalize Sto.saveS M n ⟨⟨t0, v0⟩, ⟨si, st, sc, sd⟩, es⟩ ⟨ht, hv⟩ l = KS at HSS ⊢
  clear hh hsh hss hed hld
  have bH := Blk.made w #[.int .u64 ht, .int .i64 hv] 40
  have hn := (Only.refl NoBlock w).alloc (Obj.cells #[.int .u64 ht, .int .i64 hv] 40)
  have hu1 := hu.keeps hn (fun h => h)
  have hin1 := hin.keeps hn (fun _ _ h => h)
  have hl1 := hl.keeps hn (fun _ _ h => h)
  go_enter Tryz.func15, Tryz.ntmps15
  go_upto_region 1 with fail
  obtain ⟨H, hH⟩ : ∃ H, w.heap.size = H := ⟨_, rfl⟩
  have hwH : w.heap.size ≤ H := by omega
  rw [hH] at bH ⊢
  clear hH
  generalize w.alloc (Obj.cells #[.int .u64 ht, .int .i64 hv] 40) = w1 at bH hn hu1 hin1 hl1 ⊢
  have hz1 := hn.size
  have c0 : w1.cell? ⟨u, 1, none⟩ = some (.int .u64 t0) := by rw [hu1.cell]; rfl
  have c1 : w1.cell? ⟨u, 2, none⟩ = some (.int .i64 v0) := by rw [hu1.cell]; rfl
  have c2 : w1.cell? ⟨u, 3, none⟩ = some (.int .u64 si) := by rw [hu1.cell]; rfl
  have c3 : w1.cell? ⟨u, 4, none⟩ = some (.int .u64 st) := by rw [hu1.cell]; rfl
  have c4 : w1.cell? ⟨u, 5, none⟩ = some (.int .u64 sc) := by rw [hu1.cell]; rfl
  have c5 : w1.cell? ⟨u, 6, none⟩ = some (.string sd) := by rw [hu1.cell]; rfl
  have c6 : w1.cell? ⟨u, 7, none⟩ = some (.slice ao es.length cap) := by rw [hu1.cell]; rfl
  have x0 : w1.cell? ⟨H, 0, none⟩ = some (.int .u64 ht) := by rw [bH.cell]; rfl
  have x1 : w1.cell? ⟨H, 1, none⟩ = some (.int .i64 hv) := by rw [bH.cell]; rfl
  have hO1 : Only NoBlock w1 w1.drew := (Only.refl NoBlock w1).drew
  have hO2 : Only NoBlock w1 (w1.alloc (Obj.cells #[.int .u64 0, .int .i64 0, .int .u64 0, .int .u64 0, .int .u64 0, .string { data := #[] }, .slice none 0 0] 53)).drew := ((Only.refl NoBlock w1).alloc _).drew
  have hI1 := hin1.keeps hO1 (fun _ _ h => h)
  have hI2 := hin1.keeps hO2 (fun _ _ h => h)
  have hJ1 := hl1.keeps hO1 (fun _ _ h => h)
  have hJ2 := hl1.keeps hO2 (fun _ _ h => h)
  have hT2 := Blk.drew (Blk.made w1 #[.int .u64 0, .int .i64 0, .int .u64 0, .int .u64 0, .int .u64 0, .string { data := #[] }, .slice none 0 0] 53)
  have nU := World.new_ne w1 ⟨u, 1, none⟩ c0
  have nH := World.new_ne w1 ⟨H, 0, none⟩ x0
  have hul := hu.lt
  clear hu hin hl hin1 hl1
  go_cut [7, 8, 9] (fun v7 v8 v9 wx => ∃ (W : World) (ok : Bool) (s' : St) (T : Nat) (ao' : Option Addr) (cap' : Nat), W = wx ∧ v8 = .pointer (some ⟨T, 0, none⟩) ∧ v9 = .bool ok ∧ w.heap.size ≤ T ∧ Blk wx T (stCells s'.hard s'.snap (.slice ao' s'.es.length cap')) 53 ∧ EntsIn wx ao' s'.es ∧ Only NoBlock w wx ∧ RowKit.Hid (Sto.rightO (Sto.said ⟨⟨t0, v0⟩, ⟨si, st, sc, sd⟩, es⟩ Z) = (if ok = true then some s' else none)) ∧ RowKit.Hid (ok = true → ∃ a c, v7 = .slice a Z.length c ∧ StrsIn wx a Z) ∧ s'.hard.Wf ∧ s'.snap.Wf)
  case first =>
    go_wp2_with fail
    go_region_held3 (fun w' => w'.cell? ⟨u, 1, none⟩ = some (.int .u64 t0) ∧ w'.cell? ⟨u, 2, none⟩ = some (.int .i64 v0) ∧ w'.cell? ⟨u, 3, none⟩ = some (.int .u64 si) ∧ w'.cell? ⟨u, 4, none⟩ = some (.int .u64 st) ∧ w'.cell? ⟨u, 5, none⟩ = some (.int .u64 sc) ∧ w'.cell? ⟨u, 6, none⟩ = some (.string sd) ∧ w'.cell? ⟨u, 7, none⟩ = some (.slice ao es.length cap) ∧ w'.cell? ⟨H, 0, none⟩ = some (.int .u64 ht) ∧ w'.cell? ⟨H, 1, none⟩ = some (.int .i64 hv))
      (first | with_reducible exact ⟨c0, c1, c2, c3, c4, c5, c6, x0, x1⟩ | go_keep)
      ((go_at_call 41; refine (HREC.out _ (by first | with_reducible exact hI1 | with_reducible exact hI2) (by first | with_reducible exact hJ1 | with_reducible exact hJ2)).mono ?_; rintro e w7 ⟨ok, ⟨⟨ht', hv'⟩, ⟨si', st', sc', sd'⟩, es'⟩, vz, ao', cap', rfl, hl7, hO7, HT7, hR7, hh7, hs7, hle7⟩; (try (with_reducible have hg7 : Only NoBlock w1.drew w7 := hO7)); (first | (clear hg7) | have hT7 := hT2.keeps hO7 (fun h => h)); have hO47 : Only NoBlock w1 w7 := Only.trans (by first | with_reducible exact hO1 | with_reducible exact hO2) hO7; have hU7 := hu1.keeps hO47 (fun h => h); have hH7 := bH.keeps hO47 (fun h => h)
        simp only [stCells]
        have c0 : w7.cell? ⟨u, 1, none⟩ = some (.int .u64 t0) := by rw [hU7.cell]; rfl
        have c1 : w7.cell? ⟨u, 2, none⟩ = some (.int .i64 v0) := by rw [hU7.cell]; rfl
        have c2 : w7.cell? ⟨u, 3, none⟩ = some (.int .u64 si) := by rw [hU7.cell]; rfl
        have c3 : w7.cell? ⟨u, 4, none⟩ = some (.int .u64 st) := by rw [hU7.cell]; rfl
        have c4 : w7.cell? ⟨u, 5, none⟩ = some (.int .u64 sc) := by rw [hU7.cell]; rfl
        have c5 : w7.cell? ⟨u, 6, none⟩ = some (.string sd) := by rw [hU7.cell]; rfl
        have c6 : w7.cell? ⟨u, 7, none⟩ = some (.slice ao es.length cap) := by rw [hU7.cell]; rfl
        have x0 : w7.cell? ⟨H, 0, none⟩ = some (.int .u64 ht) := by rw [hH7.cell]; rfl
        have x1 : w7.cell? ⟨H, 1, none⟩ = some (.int .i64 hv) := by rw [hH7.cell]; rfl
        have hz7 := Blk.made w7 #[.int .u64 0, .int .i64 0, .int .u64 0, .int .u64 0, .int .u64 0, .string { data := #[] }, .slice none 0 0] 53
        have y0 : (w7.alloc (Obj.cells #[.int .u64 0, .int .i64 0, .int .u64 0, .int .u64 0, .int .u64 0, .string { data := #[] }, .slice none 0 0] 53)).cell? ⟨w7.heap.size, 0, none⟩ = some (.int .u64 0) := by rw [hz7.cell]; rfl
        have fy0 := hz7.free 0
        have y1 : (w7.alloc (Obj.cells #[.int .u64 0, .int .i64 0, .int .u64 0, .int .u64 0, .int .u64 0, .string { data := #[] }, .slice none 0 0] 53)).cell? ⟨w7.heap.size, 1, none⟩ = some (.int .i64 0) := by rw [hz7.cell]; rfl
        have fy1 := hz7.free 1
        have y2 : (w7.alloc (Obj.cells #[.int .u64 0, .int .i64 0, .int .u64 0, .int .u64 0, .int .u64 0, .string { data := #[] }, .slice none 0 0] 53)).cell? ⟨w7.heap.size, 2, none⟩ = some (.int .u64 0) := by rw [hz7.cell]; rfl
        have fy2 := hz7.free 2
        have y3 : (w7.alloc (Obj.cells #[.int .u64 0, .int .i64 0, .int .u64 0, .int .u64 0, .int .u64 0, .string { data := #[] }, .slice none 0 0] 53)).cell? ⟨w7.heap.size, 3, none⟩ = some (.int .u64 0) := by rw [hz7.cell]; rfl
        have fy3 := hz7.free 3
        have y4 : (w7.alloc (Obj.cells #[.int .u64 0, .int .i64 0, .int .u64 0, .int .u64 0, .int .u64 0, .string { data := #[] }, .slice none 0 0] 53)).cell? ⟨w7.heap.size, 4, none⟩ = some (.int .u64 0) := by rw [hz7.cell]; rfl
        have fy4 := hz7.free 4
        have y5 : (w7.alloc (Obj.cells #[.int .u64 0, .int .i64 0, .int .u64 0, .int .u64 0, .int .u64 0, .string { data := #[] }, .slice none 0 0] 53)).cell? ⟨w7.heap.size, 5, none⟩ = some (.string { data := #[] }) := by rw [hz7.cell]; rfl
        have fy5 := hz7.free 5
        have y6 : (w7.alloc (Obj.cells #[.int .u64 0, .int .i64 0, .int .u64 0, .int .u64 0, .int .u64 0, .string { data := #[] }, .slice none 0 0] 53)).cell? ⟨w7.heap.size, 6, none⟩ = some (.slice none 0 0) := by rw [hz7.cell]; rfl
        have fy6 := hz7.free 6
        have nu7 := World.new_ne w7 ⟨u, 1, none⟩ c0
        have nh7 := World.new_ne w7 ⟨H, 0, none⟩ x0
        (try have tt0 : w7.cell? ⟨w1.heap.size, 0, none⟩ = some (.int .u64 0) := by rw [hT7.cell]; rfl)
        (try have ftt0 := hT7.free 0)
        (try have tt1 : w7.cell? ⟨w1.heap.size, 1, none⟩ = some (.int .i64 0) := by rw [hT7.cell]; rfl)
        (try have ftt1 := hT7.free 1)
        (try have tt2 : w7.cell? ⟨w1.heap.size, 2, none⟩ = some (.int .u64 0) := by rw [hT7.cell]; rfl)
        (try have ftt2 := hT7.free 2)
        (try have tt3 : w7.cell? ⟨w1.heap.size, 3, none⟩ = some (.int .u64 0) := by rw [hT7.cell]; rfl)
        (try have ftt3 := hT7.free 3)
        (try have tt4 : w7.cell? ⟨w1.heap.size, 4, none⟩ = some (.int .u64 0) := by rw [hT7.cell]; rfl)
        (try have ftt4 := hT7.free 4)
        (try have tt5 : w7.cell? ⟨w1.heap.size, 5, none⟩ = some (.string { data := #[] }) := by rw [hT7.cell]; rfl)
        (try have ftt5 := hT7.free 5)
        (try have tt6 : w7.cell? ⟨w1.heap.size, 6, none⟩ = some (.slice none 0 0) := by rw [hT7.cell]; rfl)
        (try have ftt6 := hT7.free 6)))
    · have hA := (Only.refl NoBlock w7).alloc (Obj.cells #[.int .u64 ht', .int .i64 hv', .int .u64 si', .int .u64 st', .int .u64 sc', .string sd', .slice ao' es'.length cap'] 53)
      have hHR := Lib.hid hR7
      have hHT := Lib.hid HT7
      have hzz : w.heap.size ≤ w7.heap.size := by have := hO47.size; omega
      have hB := Blk.made w7 #[.int .u64 ht', .int .i64 hv', .int .u64 si', .int .u64 st', .int .u64 sc', .string sd', .slice ao' es'.length cap'] 53
      have hl8 := hl7.keeps hA (fun _ _ h => h)
      have hnn := (hn.trans hO47).trans hA
      clear HT7 hR7 c0 c1 c2 c3 c4 c5 c6 x0 x1
      go_wp2_with fail
      go_meet
      exact ⟨_, ok, ⟨⟨ht', hv'⟩, ⟨si', st', sc', sd'⟩, es'⟩, w7.heap.size, ao', cap', rfl, rfl, rfl, hzz, hB, hl8, hnn, hHT, Lib.hid (fun h => by
        have hs := hHR.out h
        obtain ⟨a, c, rfl⟩ := hs.shape
        exact ⟨a, c, rfl, (hs.read.1).keeps hA (fun _ _ h => h)⟩), hh7, hs7⟩
    · have hvo := vset_only w7 w1.heap.size (.int .u64 ht') (.int .i64 hv') (.int .u64 si') (.int .u64 st') (.int .u64 sc') (.string sd') (.slice ao' es'.length cap')
      have hHR := Lib.hid hR7
      have hHT := Lib.hid HT7
      have hB := vset_blk8 hT7 (.int .u64 ht') (.int .i64 hv') (.int .u64 si') (.int .u64 st') (.int .u64 sc') (.string sd') (.slice ao' es'.length cap')
      have hl8 := EntsIn.keepsS (h := ⟨0, 0⟩) (s := ⟨0, 0, 0, ByteArray.empty⟩) (b := none) (n := 0) (c := 0) hl7 hT7 hvo
      have hnn := (hn.trans hO47).andThen hvo (fun k hk e => by have e' : k = w1.heap.size := e; omega)
      have hZ8 : RowKit.Hid (ok = true → ∃ a c, vz = .slice a Z.length c ∧ StrsIn (vset w7 w1.heap.size (.int .u64 ht') (.int .i64 hv') (.int .u64 si') (.int .u64 st') (.int .u64 sc') (.string sd') (.slice ao' es'.length cap')) a Z) := Lib.hid (fun h => by
        have hs := hHR.out h
        have hap := hs.apart hT7 (by decide)
        obtain ⟨a, c, rfl⟩ := hs.shape
        exact ⟨a, c, rfl, (hs.read.1).keeps hvo (fun ad ha e => hap (by subst ha; have e' : ad.block = w1.heap.size := e; rw [← e']; rfl))⟩)
      clear HT7 hR7 c0 c1 c2 c3 c4 c5 c6 x0 x1
      go_wp2_with fail
      go_meet
      exact ⟨_, ok, ⟨⟨ht', hv'⟩, ⟨si', st', sc', sd'⟩, es'⟩, w1.heap.size, ao', cap', rfl, rfl, rfl, hz1, hB, hl8, hnn, hHT, hZ8, hh7, hs7⟩
  case rest =>
    obtain ⟨wx, ok, ⟨⟨ht', hv'⟩, ⟨si', st', sc', sd'⟩, es'⟩, T, ao', cap', rfl, rfl, rfl, hwT, hT5, hl5, hn5, HT, HZ, hh', hs'⟩ := hcut
    simp only [stCells] at hT5 hl5 hh' hs'
    clear c0 c1 c2 c3 c4 c5 c6 x0 x1 nU nH hT2 hO1 hO2 hI1 hI2 hJ1 hJ2 hu1 bH hn HREC
    have hd5 := hd.keeps hn5 (fun h => h)
    have hg5 : RLogAt wx g r n := Blk.keeps hg hn5 (fun h => h)
    have hU5 : RStoreAt wx u g ⟨⟨t0, v0⟩, ⟨si, st, sc, sd⟩, es⟩ := HU0.out.keeps hn5 (fun h => h) (fun k hk _ _ => hk)
    cases ok with
    | false =>
      have hsv : sv = none := by rw [HSV.out, HT.out]; rfl
      subst hsv
      simp only at HSE HSM HSS
      go_wp2_with fail
      go_ret
      exact ⟨by rw [HSE.out]; rfl, by rw [HSM.out]; exact hd5, by rw [HSS.out]; exact hU5, hn5.of_no⟩
    | true =>
      have hsv : sv = some ⟨⟨ht', hv'⟩, ⟨si', st', sc', sd'⟩, es'⟩ := by rw [HSV.out, HT.out]; rfl
      subst hsv
      simp only at HSE HSM HSS
      obtain ⟨az, cz, rfl, hZ5⟩ := HZ.out rfl
      clear HSV HT HZ
      by_cases hz : Z.length = 0
      · rw [if_pos hz] at HSE HSM HSS
        go_wp2_with fail
        go_ret
        exact ⟨by rw [HSE.out]; rfl, by rw [HSM.out]; exact hd5, by rw [HSS.out]; exact hU5, hn5.of_no⟩
      · rw [if_neg hz] at HSE HSM HSS
        obtain ⟨q1, q2, aq, cq, hUb, hUl⟩ := hU5
        simp only at q1 q2 hUb hUl
        have k0 : wx.cell? ⟨u, 0, none⟩ = some (.pointer (some ⟨g, 0, none⟩)) := by rw [hUb.cell]; rfl
        go_wp2_with fail
        refine (rlog_append_at wx g r M n az cz Z hd5 hg5 hZ5 hsz).mono ?_
        rintro e w8 ⟨rfl, hd8, hO8⟩
        have hrl := hd.lt
        have hn8 : Only (fun k => k = r) w w8 := hn5.of_no.trans hO8
        have hU8 := hUb.keeps hO8 (fun e => hur e)
        have hl8 := hl5.keepsR hd5 hO8
        have hq8 := hUl.keepsR hd5 hO8
        have hT8 := hT5.keeps hO8 (fun e => by have e' : T = r := e; omega)
        clear k0
        by_cases hap : Wal.appE M n Z = 0
        · rw [if_pos hap] at HSS
          rw [hap] at HSE ⊢
          clear hap hUb hUl hq8 hT5 hl5 hO8 hZ5 hd5 hg5
          have q0 : w8.cell? ⟨T, 0, none⟩ = some (.int .u64 ht') := by rw [hT8.cell]; rfl
          have q1 : w8.cell? ⟨T, 1, none⟩ = some (.int .i64 hv') := by rw [hT8.cell]; rfl
          have q2 : w8.cell? ⟨T, 2, none⟩ = some (.int .u64 si') := by rw [hT8.cell]; rfl
          have q3 : w8.cell? ⟨T, 3, none⟩ = some (.int .u64 st') := by rw [hT8.cell]; rfl
          have q4 : w8.cell? ⟨T, 4, none⟩ = some (.int .u64 sc') := by rw [hT8.cell]; rfl
          have q5 : w8.cell? ⟨T, 5, none⟩ = some (.string sd') := by rw [hT8.cell]; rfl
          have q6 : w8.cell? ⟨T, 6, none⟩ = some (.slice ao' es'.length cap') := by rw [hT8.cell]; rfl
          have k1 : w8.cell? ⟨u, 1, none⟩ = some (.int .u64 t0) := by rw [hU8.cell]; rfl
          have fk1 := hU8.free 1
          have k2 : w8.cell? ⟨u, 2, none⟩ = some (.int .i64 v0) := by rw [hU8.cell]; rfl
          have fk2 := hU8.free 2
          have k3 : w8.cell? ⟨u, 3, none⟩ = some (.int .u64 si) := by rw [hU8.cell]; rfl
          have fk3 := hU8.free 3
          have k4 : w8.cell? ⟨u, 4, none⟩ = some (.int .u64 st) := by rw [hU8.cell]; rfl
          have fk4 := hU8.free 4
          have k5 : w8.cell? ⟨u, 5, none⟩ = some (.int .u64 sc) := by rw [hU8.cell]; rfl
          have fk5 := hU8.free 5
          have k6 : w8.cell? ⟨u, 6, none⟩ = some (.string sd) := by rw [hU8.cell]; rfl
          have fk6 := hU8.free 6
          have k7 : w8.cell? ⟨u, 7, none⟩ = some (.slice aq es.length cq) := by rw [hU8.cell]; rfl
          have fk7 := hU8.free 7
          go_wp2_with fail
          have hz : Only (fun k => k = u) w8 (((((((w8.setCell ⟨u, 1, none⟩ (.int .u64 ht')).setCell ⟨u, 2, none⟩ (.int .i64 hv')).setCell ⟨u, 3, none⟩ (.int .u64 si')).setCell ⟨u, 4, none⟩ (.int .u64 st')).setCell ⟨u, 5, none⟩ (.int .u64 sc')).setCell ⟨u, 6, none⟩ (.string sd')).setCell ⟨u, 7, none⟩ (.slice ao' es'.length cap')) := ((((((((Only.refl (fun k => k = u) w8).setCell (p := ⟨u, 1, none⟩) (fun _ => rfl) (.int .u64 ht')).setCell (p := ⟨u, 2, none⟩) (fun _ => rfl) (.int .i64 hv')).setCell (p := ⟨u, 3, none⟩) (fun _ => rfl) (.int .u64 si')).setCell (p := ⟨u, 4, none⟩) (fun _ => rfl) (.int .u64 st')).setCell (p := ⟨u, 5, none⟩) (fun _ => rfl) (.int .u64 sc')).setCell (p := ⟨u, 6, none⟩) (fun _ => rfl) (.string sd')).setCell (p := ⟨u, 7, none⟩) (fun _ => rfl) (.slice ao' es'.length cap'))
          have hBz : Blk (((((((w8.setCell ⟨u, 1, none⟩ (.int .u64 ht')).setCell ⟨u, 2, none⟩ (.int .i64 hv')).setCell ⟨u, 3, none⟩ (.int .u64 si')).setCell ⟨u, 4, none⟩ (.int .u64 st')).setCell ⟨u, 5, none⟩ (.int .u64 sc')).setCell ⟨u, 6, none⟩ (.string sd')).setCell ⟨u, 7, none⟩ (.slice ao' es'.length cap')) u #[.pointer (some ⟨g, 0, none⟩), .int .u64 ht', .int .i64 hv', .int .u64 si', .int .u64 st', .int .u64 sc', .string sd', .slice ao' es'.length cap'] 55 := (((((((hU8.setCell 1 (.int .u64 ht')).setCell 2 (.int .i64 hv')).setCell 3 (.int .u64 si')).setCell 4 (.int .u64 st')).setCell 5 (.int .u64 sc')).setCell 6 (.string sd')).setCell 7 (.slice ao' es'.length cap'))
          have hlz := EntsIn.keepsU (h := ⟨t0, v0⟩) (s := ⟨si, st, sc, sd⟩) hl8 hU8 ⟨_, _, _, rfl⟩ hz
          have hDz := hd8.keeps hz (fun e => hur e.symm)
          go_ret
          exact ⟨by rw [HSE.out]; rfl, by rw [HSM.out]; exact hDz, by rw [HSS.out]; exact ⟨hh', hs', _, _, hBz, hlz⟩, (hn8.mono (fun k e => .inl e)).andThen hz (fun k _ e => .inr e)⟩
        · rw [if_neg hap] at HSS
          have hab : (Wal.appE M n Z == 0) = false := by simpa using hap
          have hab2 : (Wal.appE M n Z != 0) = true := by simpa using hap
          have HAP := Lib.hid hap
          clear hap
          go_wp2_with fail
          go_ret
          exact ⟨by rw [HSE.out]; rfl, by rw [HSM.out]; exact hd8, by rw [HSS.out]; exact ⟨q1, q2, aq, cq, hU8, hq8⟩, hn8.mono (fun k e => .inl e)⟩
theorem rsave8_as {w : World} {u g r : Nat} {M : DM} {n : Int} {s : St} {h : Hrd} {aoL : Option Addr} {capL len : Nat} {l : List Ent} (hh : h.Wf) (hd : RefAt w r M) (hg : RLogAt w g r n) (hS : RStoreAt w u g s) (hel : s.es.length ≤ 100000000) (hed : ∀ e ∈ s.es, e.data.size ≤ 65536) (hl : EntsIn w aoL l) (hlen : l.length = len) (hll : l.length ≤ 100000000) (hld : ∀ e ∈ l, e.data.size ≤ 1000000000) (hsz : (Wal.text (Sto.out s h l)).size ≤ 1000000000)
    {k : Int} (hE : Sto.saveE M n s h l = k) {M' : DM} (hM : Sto.saveM M n s h l = M') {s' : St} (hs' : Sto.saveS M n s h l = s') :
    Calls Tryz.prog 15 #[.pointer (some ⟨u, 0, none⟩), .agg #[.int .u64 h.term, .int .i64 h.vote], .slice aoL len capL] w (RStoreEnd k M' s' u g r w) := by
  subst hE; subst hM; subst hs'; subst hlen
  obtain ⟨⟨t0, v0⟩, ⟨si, st, sc, sd⟩, es⟩ := s
  obtain ⟨q1, q2, ao, cap, hu, hin⟩ := hS
  exact rsave8_raw w u g r M n t0 v0 si st sc sd es ao cap h.term h.vote aoL capL l hh hd hg hu q1 q2 hin hel hed hl hll hld hsz
end Go.Proofs.YtekmjhenhgmpgaaGreat

/- The document's Anew. -/
namespace Go.Proofs.YtekmjhenhgmpgaaGreat
open Go.RowKit
set_option maxRecDepth 100000

set_option maxHeartbeats 4000000 in
theorem ranew8_raw (w : World) (u g r : Nat) (M : DM) (n : Int) (old : St) (ht : Nat) (hv : Int) (si st sc : Nat) (sd : ByteArray) (es : List Ent) (ao : Option Addr) (cap : Nat)
    (hh : (⟨ht, hv⟩ : Hrd).Wf) (hs : (⟨si, st, sc, sd⟩ : Snp).Wf) (hl : EntsIn w ao es) (hd : RefAt w r M) (hg : RLogAt w g r n) (hS : RStoreAt w u g old)
    (hle : es.length ≤ 100000000) (hdat : ∀ e ∈ es, e.data.size ≤ 1000000000) (hdsz : sd.size ≤ 1000000000) (hsz : (Wal.text (Sto.anewR ⟨⟨ht, hv⟩, ⟨si, st, sc, sd⟩, es⟩)).size ≤ 1000000000) :
    Calls Tryz.prog 13 #[.pointer (some ⟨u, 0, none⟩), .agg #[.int .u64 ht, .int .i64 hv, .int .u64 si, .int .u64 st, .int .u64 sc, .string sd, .slice ao es.length cap]] w (RStoreEnd (Sto.anewE M n ⟨⟨ht, hv⟩, ⟨si, st, sc, sd⟩, es⟩) (Sto.anewM M n ⟨⟨ht, hv⟩, ⟨si, st, sc, sd⟩, es⟩) (Sto.anewS M n old ⟨⟨ht, hv⟩, ⟨si, st, sc, sd⟩, es⟩) u g r w) := by
  have hur : u ≠ r := by obtain ⟨_, _, hb, _⟩ := hS.ex; exact ref_apart hd hb
  have htl := hS.lt
  have HSE : RowKit.Hid (Sto.anewE M n ⟨⟨ht, hv⟩, ⟨si, st, sc, sd⟩, es⟩ = if (rightB ⟨ht, hv⟩ ⟨si, st, sc, sd⟩ es && decide (sd.size ≤ 32768)) = true then Wal.anewE M n (Sto.anewR ⟨⟨ht, hv⟩, ⟨si, st, sc, sd⟩, es⟩) else 1) := Lib.hid rfl
  have HSM : RowKit.Hid (Sto.anewM M n ⟨⟨ht, hv⟩, ⟨si, st, sc, sd⟩, es⟩ = if (rightB ⟨ht, hv⟩ ⟨si, st, sc, sd⟩ es && decide (sd.size ≤ 32768)) = true then Wal.anew M n (Sto.anewR ⟨⟨ht, hv⟩, ⟨si, st, sc, sd⟩, es⟩) else M) := Lib.hid rfl
  have HSS : RowKit.Hid (Sto.anewS M n old ⟨⟨ht, hv⟩, ⟨si, st, sc, sd⟩, es⟩ = if (rightB ⟨ht, hv⟩ ⟨si, st, sc, sd⟩ es && decide (sd.size ≤ 32768)) = true then (if Wal.anewE M n (Sto.anewR ⟨⟨ht, hv⟩, ⟨si, st, sc, sd⟩, es⟩) = 0 then ⟨⟨ht, hv⟩, ⟨si, st, sc, sd⟩, es⟩ else old) else old) := Lib.hid rfl
  have HR : RowKit.Hid (Sto.anewR ⟨⟨ht, hv⟩, ⟨si, st, sc, sd⟩, es⟩ = [Sto.hardB ⟨ht, hv⟩, Sto.snapB ⟨si, st, sc, sd⟩] ++ es.map Sto.entB) := Lib.hid rfl
  have hsd := hs.data
  have hX := Blk.made w #[.int .u64 ht, .int .i64 hv, .int .u64 si, .int .u64 st, .int .u64 sc, .string sd, .slice ao es.length cap] 53
  have hn := (Only.refl NoBlock w).alloc (Obj.cells #[.int .u64 ht, .int .i64 hv, .int .u64 si, .int .u64 st, .int .u64 sc, .string sd, .slice ao es.length cap] 53)
  have hz1 : (w.alloc (Obj.cells #[.int .u64 ht, .int .i64 hv, .int .u64 si, .int .u64 st, .int .u64 sc, .string sd, .slice ao es.length cap] 53)).heap.size = w.heap.size + 1 := by simp
  have HS0 := Lib.hid hS
  have HD0 := Lib.hid hd
  have HG0 := Lib.hid hg
  have HH := Lib.hid hh
  have HSW := Lib.hid hs
  have hh1 := hh.term
  have hh2 := hh.vote
  have hs1 := hs.index
  have hs2 := hs.term
  have hs3 := hs.config
  simp only at hsd hh1 hh2 hs1 hs2 hs3
  clear hS hd hg hh hs
  go_enter Tryz.func13, Tryz.ntmps13
  go_upto_region 1 with fail
  generalize w.alloc (Obj.cells #[.int .u64 ht, .int .i64 hv, .int .u64 si, .int .u64 st, .int .u64 sc, .string sd, .slice ao es.length cap] 53) = w1 at hX hn hz1 ⊢
  have hl1 := hl.keeps hn (fun _ _ h => h)
  have x0 : w1.cell? ⟨w.heap.size, 0, none⟩ = some (.int .u64 ht) := by rw [hX.cell]; rfl
  have x1 : w1.cell? ⟨w.heap.size, 1, none⟩ = some (.int .i64 hv) := by rw [hX.cell]; rfl
  have x2 : w1.cell? ⟨w.heap.size, 2, none⟩ = some (.int .u64 si) := by rw [hX.cell]; rfl
  have x3 : w1.cell? ⟨w.heap.size, 3, none⟩ = some (.int .u64 st) := by rw [hX.cell]; rfl
  have x4 : w1.cell? ⟨w.heap.size, 4, none⟩ = some (.int .u64 sc) := by rw [hX.cell]; rfl
  have x5 : w1.cell? ⟨w.heap.size, 5, none⟩ = some (.string sd) := by rw [hX.cell]; rfl
  have x6 : w1.cell? ⟨w.heap.size, 6, none⟩ = some (.slice ao es.length cap) := by rw [hX.cell]; rfl
  go_wp2_with fail
  refine (rright8_raw w1 ht hv si st sc sd HSW.out ao cap es hl1 (by omega) (fun e he => Nat.le_trans (hdat e he) (by decide))).mono ?_
  rintro e w2 ⟨rfl, hO2⟩
  have hX2 := hX.keeps hO2 (fun h => h)
  have hn2 := hn.trans hO2
  clear x0 x1 x2 x3 x4 x5 x6 hX hn hl1 hO2 hz1
  have x0 : w2.cell? ⟨w.heap.size, 0, none⟩ = some (.int .u64 ht) := by rw [hX2.cell]; rfl
  have x1 : w2.cell? ⟨w.heap.size, 1, none⟩ = some (.int .i64 hv) := by rw [hX2.cell]; rfl
  have x2 : w2.cell? ⟨w.heap.size, 2, none⟩ = some (.int .u64 si) := by rw [hX2.cell]; rfl
  have x3 : w2.cell? ⟨w.heap.size, 3, none⟩ = some (.int .u64 st) := by rw [hX2.cell]; rfl
  have x4 : w2.cell? ⟨w.heap.size, 4, none⟩ = some (.int .u64 sc) := by rw [hX2.cell]; rfl
  have x5 : w2.cell? ⟨w.heap.size, 5, none⟩ = some (.string sd) := by rw [hX2.cell]; rfl
  have x6 : w2.cell? ⟨w.heap.size, 6, none⟩ = some (.slice ao es.length cap) := by rw [hX2.cell]; rfl
  cases hrb : rightB ⟨ht, hv⟩ ⟨si, st, sc, sd⟩ es with
  | false =>
    rw [hrb, Bool.false_and, if_neg (by decide)] at HSE HSM HSS
    clear hrb
    go_wp2_with fail
    go_ret
    refine ⟨by rw [HSE.out]; rfl, by rw [HSM.out]; exact HD0.out.keeps hn2 (fun h => h), by rw [HSS.out]; exact HS0.out.keeps hn2 (fun h => h) (fun _ h _ _ => h), hn2.of_no⟩
  | true =>
    rw [hrb, Bool.true_and] at HSE HSM HSS
    clear hrb
    by_cases hds : 32768 < sd.size
    · rw [decide_eq_false (by omega), if_neg (by decide)] at HSE HSM HSS
      go_wp2_with fail
      go_ret
      refine ⟨by rw [HSE.out]; rfl, by rw [HSM.out]; exact HD0.out.keeps hn2 (fun h => h), by rw [HSS.out]; exact HS0.out.keeps hn2 (fun h => h) (fun _ h _ _ => h), hn2.of_no⟩
    · rw [decide_eq_true (by omega), if_pos rfl] at HSE HSM HSS
      go_upto_region 3 with fail
      go_cut [5] (fun v5 wx => Strs wx w.heap.size v5 [Sto.hardB ⟨ht, hv⟩, Sto.snapB ⟨si, st, sc, sd⟩] ∧ Blk wx w.heap.size #[.int .u64 ht, .int .i64 hv, .int .u64 si, .int .u64 st, .int .u64 sc, .string sd, .slice ao es.length cap] 53 ∧ Only NoBlock w wx)
      case first =>
        have hXd := hX2.drew
        go_region_held3 (fun w' => w'.cell? ⟨w.heap.size, 0, none⟩ = some (.int .u64 ht) ∧ w'.cell? ⟨w.heap.size, 1, none⟩ = some (.int .i64 hv) ∧ w'.cell? ⟨w.heap.size, 2, none⟩ = some (.int .u64 si) ∧ w'.cell? ⟨w.heap.size, 3, none⟩ = some (.int .u64 st) ∧ w'.cell? ⟨w.heap.size, 4, none⟩ = some (.int .u64 sc) ∧ w'.cell? ⟨w.heap.size, 5, none⟩ = some (.string sd))
          (first | with_reducible exact ⟨x0, x1, x2, x3, x4, x5⟩ | exact ⟨by rw [hXA.cell]; rfl, by rw [hXA.cell]; rfl, by rw [hXA.cell]; rfl, by rw [hXA.cell]; rfl, by rw [hXA.cell]; rfl, by rw [hXA.cell]; rfl⟩ | exact ⟨by rw [hXB.cell]; rfl, by rw [hXB.cell]; rfl, by rw [hXB.cell]; rfl, by rw [hXB.cell]; rfl, by rw [hXB.cell]; rfl, by rw [hXB.cell]; rfl⟩ | go_keep)
          (first
            | (go_at_call 34; refine (rhard8_at _ ⟨ht, hv⟩ HH.out).mono ?_; rintro e wA ⟨rfl, hOA⟩; have hXA := by first | exact hXd.keeps hOA (fun h => h) | exact hXB.keeps hOA (fun h => h))
            | (go_at_call 35; refine (rsnap8_at _ si st sc sd HSW.out hdsz).mono ?_; rintro e wB ⟨rfl, hOB⟩; have hXB := by first | exact hXd.keeps hOB (fun h => h) | exact hXA.keeps hOB (fun h => h)))
        · have hO3 := ((hn2.drew).trans hOA).trans hOB
          have hz3 := hO3.size
          have hA3 := (Only.refl NoBlock wB).alloc (Obj.cells #[.string (Sto.hardB ⟨ht, hv⟩), .string (Sto.snapB ⟨si, st, sc, sd⟩)] 9)
          go_wp2_with fail
          go_meet
          exact ⟨strs_two8 wB w.heap.size _ _ (by omega), hXB.keeps hA3 (fun h => h), hO3.trans hA3⟩
      case rest =>
        obtain ⟨hR5, hX5, hn5⟩ := hcut
        clear x0 x1 x2 x3 x4 x5 x6 hX2 hn2
        rename_i v5 wc
        have q6 : wc.cell? ⟨w.heap.size, 6, none⟩ = some (.slice ao es.length cap) := by rw [hX5.cell]; rfl
        go_wp2_with fail
        go_loopw [5, 6] (fun u5 u31 wr => ∃ k : Nat, k ≤ es.length ∧ u31 = .int .i64 k ∧ Strs wr w.heap.size u5 ([Sto.hardB ⟨ht, hv⟩, Sto.snapB ⟨si, st, sc, sd⟩] ++ (es.take k).map Sto.entB) ∧ Blk wr w.heap.size #[.int .u64 ht, .int .i64 hv, .int .u64 si, .int .u64 st, .int .u64 sc, .string sd, .slice ao es.length cap] 53 ∧ Only NoBlock w wr) (fun _ u31 _ => es.length - (intOf u31).toNat)
        case atStart => exact ⟨0, by omega, rfl, by simpa using hR5, hX5, hn5⟩
        case round =>
          clear hR5 hX5 hn5 q6
          obtain ⟨k, hk, rfl, hR, hX6, hn6⟩ := hrel
          have q6 : wr.cell? ⟨w.heap.size, 6, none⟩ = some (.slice ao es.length cap) := by rw [hX6.cell]; rfl
          by_cases hlt : k < es.length
          · obtain ⟨bb, off, rfl, e0, e1, e2, e3⟩ := (hl.keeps hn6 (fun _ _ h => h)).cell k hlt
            have hwf := hl.at_wf hlt
            have hdk : (es.getD k Ent.zero).data.size ≤ 1000000000 := by
              rw [List.getD_eq_getElem?_getD, List.getElem?_eq_getElem hlt]
              exact hdat _ (List.getElem_mem hlt)
            have hts : (es.take (k + 1)).map Sto.entB = (es.take k).map Sto.entB ++ [Sto.entB (es.getD k Ent.zero)] := by
              rw [List.take_add_one, List.getElem?_eq_getElem hlt, List.getD_eq_getElem?_getD, List.getElem?_eq_getElem hlt, List.map_append]; rfl
            have HTS := Lib.hid hts
            have hlk : ([Sto.hardB ⟨ht, hv⟩, Sto.snapB ⟨si, st, sc, sd⟩] ++ (es.take k).map Sto.entB).length ≤ 2 + k := by simp; omega
            clear hts
            generalize es.getD k Ent.zero = en at e0 e1 e2 e3 hwf hdk HTS
            obtain ⟨et, ei, ek, ed⟩ := en
            have HWF := Lib.hid hwf
            clear hwf
            simp only at e0 e1 e2 e3 hdk
            have hz6 := hn6.size
            go_wp2_with fail
            refine (rent8_at wr et ei ek ed HWF.out hdk).mono ?_
            rintro e w7 ⟨rfl, hO67⟩
            have hX7 := hX6.keeps hO67 (fun h => h)
            have hn7 := hn6.trans hO67
            have hR7 := hR.keeps hO67 (fun _ _ h => h)
            have hz7 := hn7.size
            have hA7 := (Only.refl NoBlock w7).alloc (Obj.cells #[.string (Sto.entB ⟨et, ei, ek, ed⟩)] 9)
            have hRX := hR7.apart hX7 (by decide)
            clear hR hX6 hn6 hO67 hz6 e0 e1 e2 e3 q6
            go_wp2_with (first
              | (at_builtin; refine wpList_append_str _ rfl _ _ rfl w.heap.size _ ([Sto.hardB ⟨ht, hv⟩, Sto.snapB ⟨si, st, sc, sd⟩] ++ (es.take k).map Sto.entB) (Sto.entB ⟨et, ei, ek, ed⟩) ⟨w7.heap.size, 0, none⟩ 1 rfl (hR7.keeps hA7 (fun _ _ h => h)) rfl (cell_str _ _ _ _ rfl) (by omega) (by simp; omega) ?_; intro v8 w8 hs8 hg8))
            go_roundw
            case rel =>
              refine ⟨k + 1, by omega, by go_num, ?_, (hX7.keeps hA7 (fun h => h)).keeps (Only.of_grown hg8) (fun e => hRX e), (hn7.trans hA7).grown hg8 (fun k hk hl => absurd (World.ownsRow.lt hR7 k hk).1 (by omega))⟩
              rw [HTS.out, ← List.append_assoc]
              exact hs8
            case measure => simp [intOf]; omega
          · obtain rfl : k = es.length := by omega
            rw [List.take_length, ← HR.out] at hR
            generalize Sto.anewR ⟨⟨ht, hv⟩, ⟨si, st, sc, sd⟩, es⟩ = Z at HSE HSM HSS hR hsz
            obtain ⟨az, cz, rfl⟩ := hR.shape
            have hzi := hR.read.1
            have hg7 : RLogAt wr g r n := Blk.keeps HG0.out hn6 (fun h => h)
            have hd7 := HD0.out.keeps hn6 (fun h => h)
            have hS7 := HS0.out.keeps hn6 (fun h => h) (fun _ h _ _ => h)
            obtain ⟨y1, y2, aq, cq, hBt7, hEt7⟩ := hS7
            have k0 : wr.cell? ⟨u, 0, none⟩ = some (.pointer (some ⟨g, 0, none⟩)) := by rw [hBt7.cell]; rfl
            go_wp2_with fail
            refine (rlog_anew_at wr g r M n az cz Z hd7 hg7 hzi hsz).mono ?_
            rintro e w8 ⟨rfl, hd8, hO8⟩
            have hrl := HD0.out.lt
            have hn8 : Only (fun k => k = r) w w8 := hn6.of_no.trans hO8
            have hX8 := hX6.keeps hO8 (fun e => by have e' : w.heap.size = r := e; omega)
            have hBt8 := hBt7.keeps hO8 (fun e => hur e)
            have hl8 := (hl.keeps hn6 (fun _ _ h => h)).keepsR hd7 hO8
            have hq8 := hEt7.keepsR hd7 hO8
            by_cases hap : Wal.anewE M n Z = 0
            · rw [if_pos hap] at HSS
              rw [hap] at HSE ⊢
              clear hap hg7 hd7 hBt7 k0 hR hX6 hn6 hO8 hEt7 q6
              have q0 : w8.cell? ⟨w.heap.size, 0, none⟩ = some (.int .u64 ht) := by rw [hX8.cell]; rfl
              have q1 : w8.cell? ⟨w.heap.size, 1, none⟩ = some (.int .i64 hv) := by rw [hX8.cell]; rfl
              have q2 : w8.cell? ⟨w.heap.size, 2, none⟩ = some (.int .u64 si) := by rw [hX8.cell]; rfl
              have q3 : w8.cell? ⟨w.heap.size, 3, none⟩ = some (.int .u64 st) := by rw [hX8.cell]; rfl
              have q4 : w8.cell? ⟨w.heap.size, 4, none⟩ = some (.int .u64 sc) := by rw [hX8.cell]; rfl
              have q5 : w8.cell? ⟨w.heap.size, 5, none⟩ = some (.string sd) := by rw [hX8.cell]; rfl
              have q6 : w8.cell? ⟨w.heap.size, 6, none⟩ = some (.slice ao es.length cap) := by rw [hX8.cell]; rfl
              have k1 : w8.cell? ⟨u, 1, none⟩ = some (.int .u64 old.hard.term) := by rw [hBt8.cell]; rfl
              have fk1 := hBt8.free 1
              have k2 : w8.cell? ⟨u, 2, none⟩ = some (.int .i64 old.hard.vote) := by rw [hBt8.cell]; rfl
              have fk2 := hBt8.free 2
              have k3 : w8.cell? ⟨u, 3, none⟩ = some (.int .u64 old.snap.index) := by rw [hBt8.cell]; rfl
              have fk3 := hBt8.free 3
              have k4 : w8.cell? ⟨u, 4, none⟩ = some (.int .u64 old.snap.term) := by rw [hBt8.cell]; rfl
              have fk4 := hBt8.free 4
              have k5 : w8.cell? ⟨u, 5, none⟩ = some (.int .u64 old.snap.config) := by rw [hBt8.cell]; rfl
              have fk5 := hBt8.free 5
              have k6 : w8.cell? ⟨u, 6, none⟩ = some (.string old.snap.data) := by rw [hBt8.cell]; rfl
              have fk6 := hBt8.free 6
              have k7 : w8.cell? ⟨u, 7, none⟩ = some (.slice aq old.es.length cq) := by rw [hBt8.cell]; rfl
              have fk7 := hBt8.free 7
              have nP := World.new_ne w8 ⟨w.heap.size, 0, none⟩ q0
              have nU := World.new_ne w8 ⟨u, 1, none⟩ k1
              have hO9 : Only NoBlock w8 w8.drew := (Only.refl NoBlock w8).drew
              have hl9 := hl8.keeps hO9 (fun _ _ h => h)
              have hPu : u ≠ w.heap.size := by omega
              have hz8 := hn8.size
              go_wp2_with fail
              go_region_held3 (fun w' => w'.cell? ⟨w.heap.size, 0, none⟩ = some (.int .u64 ht) ∧ w'.cell? ⟨w.heap.size, 1, none⟩ = some (.int .i64 hv) ∧ w'.cell? ⟨w.heap.size, 2, none⟩ = some (.int .u64 si) ∧ w'.cell? ⟨w.heap.size, 3, none⟩ = some (.int .u64 st) ∧ w'.cell? ⟨w.heap.size, 4, none⟩ = some (.int .u64 sc) ∧ w'.cell? ⟨w.heap.size, 5, none⟩ = some (.string sd) ∧ w'.cell? ⟨w.heap.size, 6, none⟩ = some (.slice ao es.length cap))
                (first | with_reducible exact ⟨q0, q1, q2, q3, q4, q5, q6⟩ | go_keep)
                ((refine step_append_ents w8.drew (by rfl) _ _ (by rfl) w8.heap.size (.slice none 0 0) [] es ao es.length cap (by rfl) (Ents.nil _ _) (by rfl) rfl hl9 (by simp; omega) (Nat.le_refl _) ?_; intro v9 w9 hs9 hg9 hor9; rw [List.nil_append] at hs9; obtain ⟨a9, c9, rfl⟩ := hs9.shape; have hO89 : Only NoBlock w8 w9 := hO9.trans ((Only.of_grown hg9).mono (fun k h => by cases h)); have hX9 := hX8.keeps hO89 (fun h => h); have hB9 := hBt8.keeps hO89 (fun h => h)
                  have q0 : w9.cell? ⟨w.heap.size, 0, none⟩ = some (.int .u64 ht) := by rw [hX9.cell]; rfl
                  have q1 : w9.cell? ⟨w.heap.size, 1, none⟩ = some (.int .i64 hv) := by rw [hX9.cell]; rfl
                  have q2 : w9.cell? ⟨w.heap.size, 2, none⟩ = some (.int .u64 si) := by rw [hX9.cell]; rfl
                  have q3 : w9.cell? ⟨w.heap.size, 3, none⟩ = some (.int .u64 st) := by rw [hX9.cell]; rfl
                  have q4 : w9.cell? ⟨w.heap.size, 4, none⟩ = some (.int .u64 sc) := by rw [hX9.cell]; rfl
                  have q5 : w9.cell? ⟨w.heap.size, 5, none⟩ = some (.string sd) := by rw [hX9.cell]; rfl
                  have q6 : w9.cell? ⟨w.heap.size, 6, none⟩ = some (.slice ao es.length cap) := by rw [hX9.cell]; rfl
                  have k1 : w9.cell? ⟨u, 1, none⟩ = some (.int .u64 old.hard.term) := by rw [hB9.cell]; rfl
                  have fk1 := hB9.free 1
                  have k2 : w9.cell? ⟨u, 2, none⟩ = some (.int .i64 old.hard.vote) := by rw [hB9.cell]; rfl
                  have fk2 := hB9.free 2
                  have k3 : w9.cell? ⟨u, 3, none⟩ = some (.int .u64 old.snap.index) := by rw [hB9.cell]; rfl
                  have fk3 := hB9.free 3
                  have k4 : w9.cell? ⟨u, 4, none⟩ = some (.int .u64 old.snap.term) := by rw [hB9.cell]; rfl
                  have fk4 := hB9.free 4
                  have k5 : w9.cell? ⟨u, 5, none⟩ = some (.int .u64 old.snap.config) := by rw [hB9.cell]; rfl
                  have fk5 := hB9.free 5
                  have k6 : w9.cell? ⟨u, 6, none⟩ = some (.string old.snap.data) := by rw [hB9.cell]; rfl
                  have fk6 := hB9.free 6
                  have k7 : w9.cell? ⟨u, 7, none⟩ = some (.slice aq old.es.length cq) := by rw [hB9.cell]; rfl
                  have fk7 := hB9.free 7))
              have hz : Only (fun k => k = u) w9 (((((((w9.setCell ⟨u, 1, none⟩ (.int .u64 ht)).setCell ⟨u, 2, none⟩ (.int .i64 hv)).setCell ⟨u, 3, none⟩ (.int .u64 si)).setCell ⟨u, 4, none⟩ (.int .u64 st)).setCell ⟨u, 5, none⟩ (.int .u64 sc)).setCell ⟨u, 6, none⟩ (.string sd)).setCell ⟨u, 7, none⟩ (.slice a9 es.length c9)) := ((((((((Only.refl (fun k => k = u) w9).setCell (p := ⟨u, 1, none⟩) (fun _ => rfl) (.int .u64 ht)).setCell (p := ⟨u, 2, none⟩) (fun _ => rfl) (.int .i64 hv)).setCell (p := ⟨u, 3, none⟩) (fun _ => rfl) (.int .u64 si)).setCell (p := ⟨u, 4, none⟩) (fun _ => rfl) (.int .u64 st)).setCell (p := ⟨u, 5, none⟩) (fun _ => rfl) (.int .u64 sc)).setCell (p := ⟨u, 6, none⟩) (fun _ => rfl) (.string sd)).setCell (p := ⟨u, 7, none⟩) (fun _ => rfl) (.slice a9 es.length c9))
              have hBz : Blk (((((((w9.setCell ⟨u, 1, none⟩ (.int .u64 ht)).setCell ⟨u, 2, none⟩ (.int .i64 hv)).setCell ⟨u, 3, none⟩ (.int .u64 si)).setCell ⟨u, 4, none⟩ (.int .u64 st)).setCell ⟨u, 5, none⟩ (.int .u64 sc)).setCell ⟨u, 6, none⟩ (.string sd)).setCell ⟨u, 7, none⟩ (.slice a9 es.length c9)) u #[.pointer (some ⟨g, 0, none⟩), .int .u64 ht, .int .i64 hv, .int .u64 si, .int .u64 st, .int .u64 sc, .string sd, .slice a9 es.length c9] 55 := (((((((hB9.setCell 1 (.int .u64 ht)).setCell 2 (.int .i64 hv)).setCell 3 (.int .u64 si)).setCell 4 (.int .u64 st)).setCell 5 (.int .u64 sc)).setCell 6 (.string sd)).setCell 7 (.slice a9 es.length c9))
              have hlz := EntsIn.keepsU (h := old.hard) (s := old.snap) (hs9.read (by omega)).1 hB9 ⟨_, _, _, rfl⟩ hz
              have hDz := (hd8.keeps hO89 (fun h => h)).keeps hz (fun e => hur e.symm)
              have hn9 := hn8.andThen hO89 (fun _ _ h => h.elim)
              go_wp2_with fail
              go_ret
              exact ⟨by rw [HSE.out]; rfl, by rw [HSM.out]; exact hDz, by rw [HSS.out]; exact ⟨HH.out, HSW.out, _, _, hBz, hlz⟩, (hn9.mono (fun k e => .inl e)).andThen hz (fun k _ e => .inr e)⟩
            · rw [if_neg hap] at HSS
              have hab : (Wal.anewE M n Z == 0) = false := by simpa using hap
              have hab2 : (Wal.anewE M n Z != 0) = true := by simpa using hap
              have HAP := Lib.hid hap
              clear hap
              go_wp2_with fail
              go_ret
              exact ⟨by rw [HSE.out]; rfl, by rw [HSM.out]; exact hd8, by rw [HSS.out]; exact ⟨y1, y2, aq, cq, hBt8, hq8⟩, hn8.mono (fun k e => .inl e)⟩
theorem ranew8_as {w : World} {u g r : Nat} {M : DM} {n : Int} {old c : St} {ao : Option Addr} {cap len : Nat} (hh : c.hard.Wf) (hs : c.snap.Wf) (hl : EntsIn w ao c.es) (hlen : c.es.length = len) (hd : RefAt w r M) (hg : RLogAt w g r n) (hS : RStoreAt w u g old) (hle : c.es.length ≤ 100000000) (hdat : ∀ e ∈ c.es, e.data.size ≤ 1000000000) (hdsz : c.snap.data.size ≤ 1000000000) (hsz : (Wal.text (Sto.anewR c)).size ≤ 1000000000)
    {k : Int} (hE : Sto.anewE M n c = k) {M' : DM} (hM : Sto.anewM M n c = M') {s' : St} (hs' : Sto.anewS M n old c = s') :
    Calls Tryz.prog 13 #[.pointer (some ⟨u, 0, none⟩), .agg #[.int .u64 c.hard.term, .int .i64 c.hard.vote, .int .u64 c.snap.index, .int .u64 c.snap.term, .int .u64 c.snap.config, .string c.snap.data, .slice ao len cap]] w (RStoreEnd k M' s' u g r w) := by
  subst hE; subst hM; subst hs'; subst hlen
  obtain ⟨⟨ht, hv⟩, ⟨si, st, sc, sd⟩, es⟩ := c
  exact ranew8_raw w u g r M n old ht hv si st sc sd es ao cap hh hs hl hd hg hS hle hdat hdsz hsz
end Go.Proofs.YtekmjhenhgmpgaaGreat

/- The program's store and the document's, on one plain disk and with one state. -/
namespace Go.Proofs.YtekmjhenhgmpgaaGreat
open Go.RowKit
set_option maxRecDepth 100000

theorem blk_apart {w : World} {a b : Nat} {cs ds : Array Value} {s t : TypeId} (ha : Blk w a cs s) (hb : Blk w b ds t) (h : s ≠ t) : a ≠ b := by
  rintro rfl
  unfold Blk at ha hb
  rw [ha] at hb
  cases hb
  exact h rfl
theorem files_apart {w : World} {d mb a : Nat} {M : DM} {cs : Array Value} {t : TypeId} (h : DiskAt w d mb M) (ha : Blk w a cs t) : a ≠ mb := by
  intro e
  obtain ⟨D, ⟨es, clock, h1, _⟩, _⟩ := h.files
  unfold Blk at ha
  rw [e, h1] at ha
  cases ha
/-- a row of entries does not lie in the program's disk -/
theorem EntsIn.keepsDk {w w' : World} {ao : Option Addr} {l : List Ent} {d mb : Nat} {M : DM} (hl : EntsIn w ao l) (h : DiskAt w d mb M) (ho : Only (fun k => k = d ∨ k = mb) w w') : EntsIn w' ao l := by
  by_cases he : l = []
  · subst he; exact EntsIn.nil _ _
  · refine hl.keeps ho (fun a ha e => ?_)
    obtain ⟨b, off, e0, h0, h1, h2, h3⟩ := hl.cell 0 (List.length_pos_iff.2 he)
    rw [ha] at e0
    cases e0
    rcases e with e | e
    · have e' : b = d := e
      subst e'
      simp only [Nat.zero_mul, Nat.add_zero] at h0
      rw [h.blk.cell] at h0
      match off with
      | 0 => simp at h0
      | 1 => simp at h0
      | 2 => simp at h0
      | 3 => simp at h0
      | n + 4 => simp at h0
    · have e' : b = mb := e
      subst e'
      obtain ⟨D, ⟨es, clock, h4, _⟩, _⟩ := h.files
      simp [World.cell?, h4] at h0
theorem ref_fueled8 {w : World} {r : Nat} {M : DM} (h : RefAt w r M) (n : Int) (h0 : -1 ≤ n) (h1 : n ≤ 9223372036854775807) : RefAt (w.setCell ⟨r, 49, none⟩ (.int .i64 n)) r { M with fuel := n } := by
  obtain ⟨hk, cs, fi, so, th, hb, hc, hs⟩ := h
  exact ⟨hk.with rfl rfl h0 h1, _, fi, so, th, hb.setCell 49 _, hc.setFuel n, hs⟩
theorem ents_far {ao : Option Addr} {es : List Ent} {N : Nat} (hold : ∀ a, ao = some a → es = [] ∨ a.block < N) {S : Nat → Prop} {wx wy : World} (h : EntsIn wx ao es) (ho : Only S wx wy) (hs : ∀ k, S k → N ≤ k) : EntsIn wy ao es := by
  by_cases he : es = []
  · subst he; exact EntsIn.nil _ _
  · exact h.keeps ho (fun a ha e => by rcases hold a ha with h1 | h1; (exact he h1); (have := hs _ e; omega))
structure Sr (w : World) (base d mb r g q t u : Nat) (n : Int) (M : DM) (s : St) : Prop where
  disk : DiskAt w d mb M
  ref : RefAt w r M
  log : LogAt w g d n
  rlog : RLogAt w q r n
  sto : StoreAt w base t g s
  rsto : RStoreAt w u q s
section
variable {w w1 : World} {base d mb r g q t u : Nat} {n : Int} {M M' : DM} {s s' : St}
theorem Sr.keeps (h : Sr w base d mb r g q t u n M s) (ho : Only NoBlock w w1) : Sr w1 base d mb r g q t u n M s :=
  ⟨h.disk.keeps ho (fun h => h) (fun h => h), h.ref.keeps ho (fun h => h), Blk.keeps h.log ho (fun h => h), Blk.keeps h.rlog ho (fun h => h), h.sto.keeps ho (fun h => h) (fun _ _ h => h), h.rsto.keeps ho (fun h => h) (fun _ h _ _ => h)⟩
/-- behind a call of the program's -/
theorem Sr.mid (h : Sr w base d mb r g q t u n M s) (ho : Only (fun k => k = d ∨ k = mb ∨ k = t) w w1) : RefAt w1 r M ∧ LogAt w1 g d n ∧ RLogAt w1 q r n ∧ RStoreAt w1 u q s := by
  obtain ⟨_, cs, fi, so, th, hrb, _⟩ := id h.ref
  obtain ⟨vt, htb, htr⟩ := h.sto.ex
  obtain ⟨u1, u2, au, cu, hub, hur⟩ := h.rsto
  refine ⟨h.ref.keeps ho ?_, Blk.keeps h.log ho ?_, Blk.keeps h.rlog ho ?_, u1, u2, au, cu, hub.keeps ho ?_, ?_⟩
  · rintro (e | e | e)
    · exact blk_apart hrb h.disk.blk (by decide) e
    · exact files_apart h.disk hrb e
    · exact blk_apart hrb htb (by decide) e
  · rintro (e | e | e)
    · exact blk_apart h.log h.disk.blk (by decide) e
    · exact files_apart h.disk h.log e
    · exact blk_apart h.log htb (by decide) e
  · rintro (e | e | e)
    · exact blk_apart h.rlog h.disk.blk (by decide) e
    · exact files_apart h.disk h.rlog e
    · exact blk_apart h.rlog htb (by decide) e
  · rintro (e | e | e)
    · exact blk_apart hub h.disk.blk (by decide) e
    · exact files_apart h.disk hub e
    · exact blk_apart hub htb (by decide) e
  · by_cases he : s.es = []
    · rw [he]; exact EntsIn.nil _ _
    · refine hur.keeps ho (fun a ha e => ?_)
      obtain ⟨b, off, e0, h0, h1, h2, h3⟩ := hur.cell 0 (List.length_pos_iff.2 he)
      rw [ha] at e0
      cases e0
      simp only [Nat.zero_mul, Nat.add_zero] at h0 h1 h2 h3
      rcases e with e | e | e
      · have e' : b = d := e
        subst e'
        rw [h.disk.blk.cell] at h0
        match off with
        | 0 => simp at h0
        | 1 => simp at h0
        | 2 => simp at h0
        | 3 => simp at h0
        | n + 4 => simp at h0
      · have e' : b = mb := e
        subst e'
        obtain ⟨D, ⟨es, clock, h4, _⟩, _⟩ := h.disk.files
        simp [World.cell?, h4] at h0
      · have e' : b = t := e
        subst e'
        obtain ⟨av, cv, rfl⟩ := htr.shape
        rw [htb.cell] at h0 h1 h2 h3
        match off with
        | 0 => simp at h0
        | 1 => simp at h1
        | 2 => simp at h0
        | 3 => simp at h2
        | 4 => simp at h2
        | n + 5 => simp at h3
/-- behind the same call of the document's -/
theorem Sr.end (hd : DiskAt w d mb M') (hs : StoreAt w base t g s') (hl : LogAt w g d n) (hq : RLogAt w q r n) (hr : RefAt w r M) (hu : RStoreAt w u q s) (hr' : RefAt w1 r M') (hu' : RStoreAt w1 u q s') (ho : Only (fun k => k = r ∨ k = u) w w1) : Sr w1 base d mb r g q t u n M' s' := by
  obtain ⟨_, cs, fi, so, th, hrb, _⟩ := id hr
  obtain ⟨_, _, au, cu, hub, _⟩ := hu
  obtain ⟨h1, h2, vt, htb, htr⟩ := hs
  refine ⟨hd.keeps ho ?_ ?_, hr', Blk.keeps hl ho ?_, Blk.keeps hq ho ?_, ⟨h1, h2, vt, htb.keeps ho ?_, htr.keeps ho ?_⟩, hu'⟩
  · rintro (e | e)
    · exact blk_apart hd.blk hrb (by decide) e
    · exact blk_apart hd.blk hub (by decide) e
  · rintro (e | e)
    · exact files_apart hd hrb e.symm
    · exact files_apart hd hub e.symm
  · rintro (e | e)
    · exact blk_apart hl hrb (by decide) e
    · exact blk_apart hl hub (by decide) e
  · rintro (e | e)
    · exact blk_apart hq hrb (by decide) e
    · exact blk_apart hq hub (by decide) e
  · rintro (e | e)
    · exact blk_apart htb hrb (by decide) e
    · exact blk_apart htb hub (by decide) e
  · rintro k hk (e | e)
    · exact htr.apart hrb (by decide) (by rw [hk, e])
    · exact htr.apart hub (by decide) (by rw [hk, e])
end

namespace Sto
/-- a state that may be, of at most so many entries -/
structure Jv (s : St) (m : Nat) : Prop where
  right : rb s = true
  len : s.es.length ≤ 3 * m
theorem saved_right {s s2 : St} {h : Hrd} {l : List Ent} (hs : saved s h l = some s2) : said s (out s h l) = some s2 ∧ rb s2 = true := by
  unfold saved rightO at hs
  cases hsd : said s (out s h l) with
  | none => rw [hsd] at hs; cases hs
  | some s3 =>
    rw [hsd] at hs
    simp only at hs
    split at hs
    next hr => cases hs; exact ⟨rfl, hr⟩
    next => cases hs
theorem Jv.more {s : St} {m k : Nat} (h : Jv s m) (hk : m ≤ k) : Jv s k := ⟨h.right, by have := h.len; omega⟩
theorem Jv.save {s : St} {m : Nat} (hJ : Jv s m) {h : Hrd} {l : List Ent} (hh : h.Wf) (hl : ∀ e ∈ l, e.Wf) (hx : Lt.es l ≤ 400) (M : DM) (n : Int) : Jv (saveS M n s h l) (m + (1 + l.length)) := by
  obtain ⟨o1, o2, o3⟩ := out_short (s := s) hh hl hx
  have h1 := hJ.more (k := m + (1 + l.length)) (by omega)
  unfold saveS
  cases hs : saved s h l with
  | none => exact h1
  | some s' =>
    simp only
    split
    · exact h1
    · split
      · obtain ⟨a, b⟩ := saved_right hs
        have := said_len _ _ _ a
        have := hJ.len
        exact ⟨b, by omega⟩
      · exact h1
theorem Jv.anew {s c : St} {m : Nat} (hJ : Jv s m) (M : DM) (n : Int) : Jv (anewS M n s c) (m + (1 + c.es.length)) := by
  have h1 := hJ.more (k := m + (1 + c.es.length)) (by omega)
  unfold anewS
  split
  next hok =>
    split
    · unfold anewOk at hok
      rw [Bool.and_eq_true] at hok
      exact ⟨hok.1, by omega⟩
    · exact h1
  · exact h1
theorem Jv.dat {s : St} {m : Nat} (h : Jv s m) : ∀ e ∈ s.es, e.data.size ≤ 65536 := fun e he => Nat.le_trans (right_ents h.right e he).2.2 (by decide)
end Sto
end Go.Proofs.YtekmjhenhgmpgaaGreat
