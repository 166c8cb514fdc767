/- A store is opened. -/
import Derived.Test.YtekmjhenhgmpgaaSaid
namespace Go.Proofs.Ytekmjhenhgmpgaa
open Go.RowKit
set_option maxRecDepth 100000

theorem results_tmp_cell_tmp {P : Program} {fn : Func} {a p u : Tmp} {ty : TypeId} (h : fn.results = #[.tmp a, .cell p ty, .tmp u]) (tmps : Array Value) (w : World) (g : Nat) (t : TypeId) (cs : Array Value) (fr : Nat × Nat) (d : TypeDesc)
    (hp : tmps.getD p undef = .pointer (some ⟨g, 0, none⟩)) (hg : w.heap[g]? = some (.cells cs t fr))
    (hu : P.underlying ty = some d) (hd : (match d with | .struct _ | .array _ _ => true | _ => false) = true) (hi : (P.info? ty).map (·.size) = some cs.size) :
    (results fn tmps).run P w = .ok (.tuple #[tmps.getD a undef, .agg cs, tmps.getD u undef]) w := by
  have hp' : tmps[p]?.getD undef = .pointer (some ⟨g, 0, none⟩) := by simpa using hp
  simp [results, h, hp', asAddr, run_loadVar_row w g t ty cs fr d hg hu hd hi]

namespace Sto
def openE (M : DM) (n : Int) (m : Nat) : Int :=
  if Qu.soundB m = false then 1 else if Wal.openE M n ≠ 0 then Wal.openE M n else
    match said (first m) (Wal.openL M n) with
    | none => 2
    | some s => if rightB s.hard s.snap s.es = true then 0 else 2
def openM (M : DM) (n : Int) (m : Nat) : DM := if Qu.soundB m = false then M else Wal.openM M n
end Sto
/-- the value of no state -/
def noState : Value := .agg #[.int .u64 0, .int .i64 0, .int .u64 0, .int .u64 0, .int .u64 0, .string { data := #[] }, .slice none 0 0]
def SOpenEnd (M : DM) (n : Int) (m d mb : Nat) (w : World) (e : Ending) (w' : World) : Prop :=
  ∃ pt x, e = .returned (.tuple #[pt, x, .int .i64 (Sto.openE M n m)]) ∧ DiskAt w' d mb (Sto.openM M n m) ∧ Only (fun k => k = d ∨ k = mb) w w' ∧
    ((Sto.openE M n m = 0 ∧ ∃ t g s, Sto.said (Sto.first m) (Wal.openL M n) = some s ∧ pt = .pointer (some ⟨t, 0, none⟩) ∧ w.heap.size ≤ t ∧ LogAt w' g d n ∧ StoreAt w' w.heap.size t g s ∧ StVal w' w.heap.size s x) ∨
     (Sto.openE M n m ≠ 0 ∧ pt = .pointer none ∧ x = noState))
theorem SOpenEnd.no {M : DM} {n : Int} {m d mb : Nat} {w w' : World} (x : Int) (M' : DM) (hx : Sto.openE M n m = x) (hM : Sto.openM M n m = M') (h0 : x ≠ 0) (hd : DiskAt w' d mb M') (ho : Only (fun k => k = d ∨ k = mb) w w') :
    SOpenEnd M n m d mb w (.returned (.tuple #[.pointer none, noState, .int .i64 x])) w' := by
  subst hx; subst hM
  exact ⟨_, _, rfl, hd, ho, .inr ⟨h0, rfl, rfl⟩⟩
/-- seven cells written again as they were -/
theorem zero_set {w : World} {g : Nat} (h : Blk w g #[.int .u64 0, .int .i64 0, .int .u64 0, .int .u64 0, .int .u64 0, .string { data := #[] }, .slice none 0 0] 42) : Blk (((((((w.setCell ⟨g, 0, none⟩ (.int .u64 0)).setCell ⟨g, 1, none⟩ (.int .i64 0)).setCell ⟨g, 2, none⟩ (.int .u64 0)).setCell ⟨g, 3, none⟩ (.int .u64 0)).setCell ⟨g, 4, none⟩ (.int .u64 0)).setCell ⟨g, 5, none⟩ (.string { data := #[] })).setCell ⟨g, 6, none⟩ (.slice none 0 0)) g #[.int .u64 0, .int .i64 0, .int .u64 0, .int .u64 0, .int .u64 0, .string { data := #[] }, .slice none 0 0] 42 := (((((((h.setCell 0 (.int .u64 0)).setCell 1 (.int .i64 0)).setCell 2 (.int .u64 0)).setCell 3 (.int .u64 0)).setCell 4 (.int .u64 0)).setCell 5 (.string { data := #[] })).setCell 6 (.slice none 0 0))
def zset (w : World) (g : Nat) : World := (((((((w.setCell ⟨g, 0, none⟩ (.int .u64 0)).setCell ⟨g, 1, none⟩ (.int .i64 0)).setCell ⟨g, 2, none⟩ (.int .u64 0)).setCell ⟨g, 3, none⟩ (.int .u64 0)).setCell ⟨g, 4, none⟩ (.int .u64 0)).setCell ⟨g, 5, none⟩ (.string { data := #[] })).setCell ⟨g, 6, none⟩ (.slice none 0 0))
theorem zset_only (w : World) (g : Nat) : Only (fun k => k = g) w (zset w g) := ((((((((Only.refl (fun k => k = g) w).setCell (p := ⟨g, 0, none⟩) (fun _ => rfl) (.int .u64 0)).setCell (p := ⟨g, 1, none⟩) (fun _ => rfl) (.int .i64 0)).setCell (p := ⟨g, 2, none⟩) (fun _ => rfl) (.int .u64 0)).setCell (p := ⟨g, 3, none⟩) (fun _ => rfl) (.int .u64 0)).setCell (p := ⟨g, 4, none⟩) (fun _ => rfl) (.int .u64 0)).setCell (p := ⟨g, 5, none⟩) (fun _ => rfl) (.string { data := #[] })).setCell (p := ⟨g, 6, none⟩) (fun _ => rfl) (.slice none 0 0))

/-- seven cells written -/
def vset (w : World) (g : Nat) (v0 v1 v2 v3 v4 v5 v6 : Value) : World := (((((((w.setCell ⟨g, 0, none⟩ v0).setCell ⟨g, 1, none⟩ v1).setCell ⟨g, 2, none⟩ v2).setCell ⟨g, 3, none⟩ v3).setCell ⟨g, 4, none⟩ v4).setCell ⟨g, 5, none⟩ v5).setCell ⟨g, 6, none⟩ v6)
theorem vset_only (w : World) (g : Nat) (v0 v1 v2 v3 v4 v5 v6 : Value) : Only (fun k => k = g) w (vset w g v0 v1 v2 v3 v4 v5 v6) := (((((((((Only.refl (fun k => k = g) w).setCell (p := ⟨g, 0, none⟩) (fun _ => rfl) v0).setCell (p := ⟨g, 1, none⟩) (fun _ => rfl) v1).setCell (p := ⟨g, 2, none⟩) (fun _ => rfl) v2).setCell (p := ⟨g, 3, none⟩) (fun _ => rfl) v3).setCell (p := ⟨g, 4, none⟩) (fun _ => rfl) v4).setCell (p := ⟨g, 5, none⟩) (fun _ => rfl) v5).setCell (p := ⟨g, 6, none⟩) (fun _ => rfl) v6))
theorem vset_blk {w : World} {g : Nat} (h : Blk w g #[.int .u64 0, .int .i64 0, .int .u64 0, .int .u64 0, .int .u64 0, .string { data := #[] }, .slice none 0 0] 42) (v0 v1 v2 v3 v4 v5 v6 : Value) : Blk (vset w g v0 v1 v2 v3 v4 v5 v6) g #[v0, v1, v2, v3, v4, v5, v6] 42 := ((((((((h.setCell 0 v0).setCell 1 v1).setCell 2 v2).setCell 3 v3).setCell 4 v4).setCell 5 v5).setCell 6 v6))
theorem SOpenEnd.ok {M : DM} {n : Int} {m d mb : Nat} {w w' : World} (t g : Nat) (s : St) (x : Value) (M' : DM) (hx : Sto.openE M n m = 0) (hM : Sto.openM M n m = M') (hs : Sto.said (Sto.first m) (Wal.openL M n) = some s) (ht : w.heap.size ≤ t) (hl : LogAt w' g d n)
    (hst : StoreAt w' w.heap.size t g s) (hv : StVal w' w.heap.size s x) (hd : DiskAt w' d mb M') (ho : Only (fun k => k = d ∨ k = mb) w w') :
    SOpenEnd M n m d mb w (.returned (.tuple #[.pointer (some ⟨t, 0, none⟩), x, .int .i64 0])) w' := by
  subst hM
  refine ⟨_, _, by rw [hx], hd, ho, .inl ⟨hx, t, g, s, hs, rfl, ht, hl, hst, hv⟩⟩
theorem copied_as (w : World) (ht : Nat) (hv : Int) (si st sc : Nat) (sd : ByteArray) (ao : Option Addr) (cap : Nat) (l : List Ent) (hl : EntsIn w ao l) (hll : l.length ≤ 1000000000000) :
    Calls Try.prog 40 #[.agg #[.int .u64 ht, .int .i64 hv, .int .u64 si, .int .u64 st, .int .u64 sc, .string sd, .slice ao l.length cap]] w fun e w' =>
      ∃ v, e = .returned (.agg #[.int .u64 ht, .int .i64 hv, .int .u64 si, .int .u64 st, .int .u64 sc, .string sd, v]) ∧ Ents w' w.heap.size v l ∧ Only NoBlock w w' :=
  copied_at w ⟨ht, hv⟩ ⟨si, st, sc, sd⟩ ao cap l hl hll

set_option maxHeartbeats 4000000 in
theorem storeopen_at (w : World) (d mb : Nat) (M : DM) (n : Int) (m : Nat) (h : DiskAt w d mb M) (hw : (Lit.int .i64 n).wf = true) (hm : m < 18446744073709551616)
    (hb : ∀ b ∈ Wal.openL M n, b.size ≤ 1000000000000) (hlen : (Wal.openL M n).length ≤ 1000000000) :
    Calls Try.prog 14 #[.pointer (some ⟨d, 0, none⟩), .int .i64 n, .int .u64 m] w (SOpenEnd M n m d mb w) := by
  have hdl := h.blk.lt
  have hml := h.files.lt
  have hr := Blk.made w #[.int .u64 0, .int .i64 0, .int .u64 0, .int .u64 0, .int .u64 0, .string { data := #[] }, .slice none 0 0] 42
  have hn := (Only.refl (fun k => k = d ∨ k = mb) w).alloc (Obj.cells #[.int .u64 0, .int .i64 0, .int .u64 0, .int .u64 0, .int .u64 0, .string { data := #[] }, .slice none 0 0] 42)
  have hD := h.keeps ((Only.refl NoBlock w).alloc (Obj.cells #[.int .u64 0, .int .i64 0, .int .u64 0, .int .u64 0, .int .u64 0, .string { data := #[] }, .slice none 0 0] 42)) (fun h => h) (fun h => h)
  have hz2 : w.heap.size < (w.alloc (Obj.cells #[.int .u64 0, .int .i64 0, .int .u64 0, .int .u64 0, .int .u64 0, .string { data := #[] }, .slice none 0 0] 42)).heap.size := by simp
  go_enter Try.func14, Try.ntmps14
  go_upto_region 1 with fail
  generalize w.alloc (Obj.cells #[.int .u64 0, .int .i64 0, .int .u64 0, .int .u64 0, .int .u64 0, .string { data := #[] }, .slice none 0 0] 42) = w1 at hr hn hD hz2 ⊢
  obtain ⟨fs, hfs⟩ := Sto.u_state
  have HFS := Lib.hid hfs
  clear hfs
  have q0 : w1.cell? ⟨w.heap.size, 0, none⟩ = some (.int .u64 0) := by rw [hr.cell]; rfl
  have f0 := hr.free 0
  have q1 : w1.cell? ⟨w.heap.size, 1, none⟩ = some (.int .i64 0) := by rw [hr.cell]; rfl
  have f1 := hr.free 1
  have q2 : w1.cell? ⟨w.heap.size, 2, none⟩ = some (.int .u64 0) := by rw [hr.cell]; rfl
  have f2 := hr.free 2
  have q3 : w1.cell? ⟨w.heap.size, 3, none⟩ = some (.int .u64 0) := by rw [hr.cell]; rfl
  have f3 := hr.free 3
  have q4 : w1.cell? ⟨w.heap.size, 4, none⟩ = some (.int .u64 0) := by rw [hr.cell]; rfl
  have f4 := hr.free 4
  have q5 : w1.cell? ⟨w.heap.size, 5, none⟩ = some (.string { data := #[] }) := by rw [hr.cell]; rfl
  have f5 := hr.free 5
  have q6 : w1.cell? ⟨w.heap.size, 6, none⟩ = some (.slice none 0 0) := by rw [hr.cell]; rfl
  have f6 := hr.free 6
  go_wp2_with fail
  refine (sound_at w1 m (by omega)).mono ?_
  rintro e w2 ⟨rfl, rfl⟩
  cases hq : Qu.soundB m with
  | false =>
    have HE : RowKit.Hid (Sto.openE M n m = 1) := Lib.hid (by unfold Sto.openE; rw [if_pos hq])
    have HM : RowKit.Hid (Sto.openM M n m = M) := Lib.hid (by unfold Sto.openM; rw [if_pos hq])
    clear hq
    go_wp2_with fail
    (try simp only [Exit.inBlock, Exit.then])
    refine bodyPost_ret (results_tmp_cell_tmp (P := Try.prog) rfl _ _ w.heap.size _ _ _ _ rfl (zero_set hr) HFS.out rfl Sto.size_state) rfl ?_
    have hz := zset_only w1 w.heap.size
    exact SOpenEnd.no 1 M HE.out HM.out (by decide) (hD.keeps hz (by omega) (by omega)) (hn.andThen hz (fun k hk e => by have e' : k = w.heap.size := e; omega))
  | true =>
    have HQ := Lib.hid hq
    clear hq
    have HM : RowKit.Hid (Sto.openM M n m = Wal.openM M n) := Lib.hid (by unfold Sto.openM; rw [if_neg (by rw [HQ.out]; decide)])
    go_wp2_with fail
    refine (open_at w1 d mb M n hD hw).mono ?_
    rintro e w2 ⟨pt, v, rfl, hD2, hO2, hE⟩
    have hr2 : Blk w2 w.heap.size _ _ := hr.keeps hO2 (by omega)
    have hn2 := hn.andThen hO2 (fun k hk e => e)
    clear q0 q1 q2 q3 q4 q5 q6 f0 f1 f2 f3 f4 f5 f6 hD hr hn
    have q0 : w2.cell? ⟨w.heap.size, 0, none⟩ = some (.int .u64 0) := by rw [hr2.cell]; rfl
    have f0 := hr2.free 0
    have q1 : w2.cell? ⟨w.heap.size, 1, none⟩ = some (.int .i64 0) := by rw [hr2.cell]; rfl
    have f1 := hr2.free 1
    have q2 : w2.cell? ⟨w.heap.size, 2, none⟩ = some (.int .u64 0) := by rw [hr2.cell]; rfl
    have f2 := hr2.free 2
    have q3 : w2.cell? ⟨w.heap.size, 3, none⟩ = some (.int .u64 0) := by rw [hr2.cell]; rfl
    have f3 := hr2.free 3
    have q4 : w2.cell? ⟨w.heap.size, 4, none⟩ = some (.int .u64 0) := by rw [hr2.cell]; rfl
    have f4 := hr2.free 4
    have q5 : w2.cell? ⟨w.heap.size, 5, none⟩ = some (.string { data := #[] }) := by rw [hr2.cell]; rfl
    have f5 := hr2.free 5
    have q6 : w2.cell? ⟨w.heap.size, 6, none⟩ = some (.slice none 0 0) := by rw [hr2.cell]; rfl
    have f6 := hr2.free 6
    rcases hE with ⟨h0, g, rfl, hg, hL, hS⟩ | ⟨h0, rfl, rfl⟩
    · obtain ⟨ao, cap, rfl⟩ := hS.shape
      have hin := hS.read
      have hbr := World.ownsRow.lt hS
      rw [h0]
      have H0 := Lib.hid h0
      clear h0 q0 q1 q2 q3 q4 q5 q6 f0 f1 f2 f3 f4 f5 f6
      generalize hL0 : Wal.openL M n = L at hS hin hbr hb hlen ⊢
      have HL := Lib.hid hL0
      clear hL0
      go_upto_region 7 with fail
      have hbL := Blk.made w2 #[.int .u64 0, .int .i64 (-1), .int .u64 0, .int .u64 0, .int .u64 m, .string { data := #[] }, .slice none 0 0] 42
      have hA := (Only.refl NoBlock w2).alloc (Obj.cells #[.int .u64 0, .int .i64 (-1), .int .u64 0, .int .u64 0, .int .u64 m, .string { data := #[] }, .slice none 0 0] 42)
      have hnb : ∀ k, (Value.slice ao L.length cap).ownBlock = some k → k < w2.heap.size := fun k hk => (hbr k hk).2
      have hgl := hL.lt
      have hwl := hr2.lt
      have hd2 := hD2.blk.lt
      have hm2 := hD2.files.lt
      generalize w2.alloc (Obj.cells #[.int .u64 0, .int .i64 (-1), .int .u64 0, .int .u64 0, .int .u64 m, .string { data := #[] }, .slice none 0 0] 42) = w3 at hbL hA ⊢
      have hD3 := hD2.keeps hA (fun h => h) (fun h => h)
      have hr3 := hr2.keeps hA (fun h => h)
      have hL3 : LogAt w3 g d n := Blk.keeps hL hA (fun h => h)
      have hI3 : StrsIn w3 ao L := hin.1.keeps hA (fun _ _ h => h)
      have hS3 : StAt w3 w2.heap.size w2.heap.size (Sto.first m) := ⟨Nat.le_refl _, ⟨(by decide : (0 : Nat) < 18446744073709551616), WalkArith.wf_i64 (n := -1) ⟨by decide, by decide⟩⟩, ⟨(by decide : (0 : Nat) < 18446744073709551616), (by decide : (0 : Nat) < 18446744073709551616), hm, (by decide : (0 : Nat) ≤ 140737488351232)⟩, _, hbL, Ents.nil _ _⟩
      have hn3 := hn2.andThen hA (fun _ _ h => h.elim)
      clear hD2 hr2 hL hbL hA hS hin hbr hn2
      generalize w2.heap.size = B at *
      go_wp2_with fail
      go_loopw [36] (fun v36 wr => ∃ (k : Nat) (s : St), k ≤ L.length ∧ v36 = .int .i64 k ∧ RowKit.Hid (Sto.said (Sto.first m) (L.take k) = some s) ∧ StAt wr B B s ∧ Only (fun j => B ≤ j) w3 wr) (fun v36 _ => L.length - (intOf v36).toNat)
      case atStart => exact ⟨0, Sto.first m, by omega, rfl, Lib.hid rfl, hS3, Only.refl _ _⟩
      case round =>
        clear hS3
        obtain ⟨k, s, hk, rfl, HS, hS4, hO4⟩ := hrel
        have hD4 := hD3.keeps hO4 (by omega) (by omega)
        have hr4 := hr3.keeps hO4 (by omega)
        have hL4 : LogAt wr g d n := Blk.keeps hL3 hO4 (by omega)
        have hI4 : StrsIn wr ao L := hI3.keeps hO4 (fun a ha h => by subst ha; have := hnb a.block rfl; have h' : B ≤ a.block := h; omega)
        by_cases hlt : k < L.length
        · obtain ⟨bb, off, rfl, c0⟩ := hI4.cell k hlt
          have hbk : (L.getD k ByteArray.empty).size ≤ 1000000000000 := by
            rw [List.getD_eq_getElem?_getD, List.getElem?_eq_getElem hlt]
            exact hb _ (List.getElem_mem hlt)
          have hsl := Sto.said_len _ _ _ HS.out
          have hts : L.take (k + 1) = L.take k ++ [L.getD k ByteArray.empty] := by rw [List.take_add_one, List.getElem?_eq_getElem hlt, List.getD_eq_getElem?_getD, List.getElem?_eq_getElem hlt]; rfl
          have hsn := Sto.said_snoc (L.take k) (Sto.first m) (L.getD k ByteArray.empty)
          rw [← hts, HS.out] at hsn
          have hse : s.es.length ≤ 1000000000000 := by rw [List.length_take] at hsl; have : (Sto.first m).es.length = 0 := rfl; omega
          have HSN := Lib.hid hsn
          clear hsn hts hsl
          generalize L.getD k ByteArray.empty = bk at c0 hbk HSN
          go_wp2_with fail
          refine (take_at wr B B s hS4 hse bk hbk).mono ?_
          rintro e w5 ⟨hO5, hE⟩
          have hO6 := hO4.trans hO5
          have hD5 := hD4.keeps hO5 (by omega) (by omega)
          have hr5 := hr4.keeps hO5 (by omega)
          clear hD4 hr4 hL4 hI4 hS4 hO4 hO5 c0
          rcases hE with ⟨s', ht, rfl, hS5⟩ | ⟨ht, rfl⟩
          · have HS2 : RowKit.Hid (Sto.said (Sto.first m) (L.take (k + 1)) = some s') := Lib.hid (HSN.out.trans ht)
            clear ht HSN hD5 hr5
            go_wp2_with fail
            go_roundw
            case rel => exact ⟨k + 1, s', by omega, by go_num, HS2, hS5, hO6⟩
            case measure => simp [intOf]; omega
          · have hno : Sto.said (Sto.first m) L = none := Sto.said_none L (k + 1) _ (HSN.out.trans ht)
            have HE : RowKit.Hid (Sto.openE M n m = 2) := Lib.hid (by unfold Sto.openE; rw [if_neg (by rw [HQ.out]; decide), if_neg (by rw [H0.out]; decide), HL.out, hno])
            clear ht hno HSN
            have q0 : w5.cell? ⟨w.heap.size, 0, none⟩ = some (.int .u64 0) := by rw [hr5.cell]; rfl
            have f0 := hr5.free 0
            have q1 : w5.cell? ⟨w.heap.size, 1, none⟩ = some (.int .i64 0) := by rw [hr5.cell]; rfl
            have f1 := hr5.free 1
            have q2 : w5.cell? ⟨w.heap.size, 2, none⟩ = some (.int .u64 0) := by rw [hr5.cell]; rfl
            have f2 := hr5.free 2
            have q3 : w5.cell? ⟨w.heap.size, 3, none⟩ = some (.int .u64 0) := by rw [hr5.cell]; rfl
            have f3 := hr5.free 3
            have q4 : w5.cell? ⟨w.heap.size, 4, none⟩ = some (.int .u64 0) := by rw [hr5.cell]; rfl
            have f4 := hr5.free 4
            have q5 : w5.cell? ⟨w.heap.size, 5, none⟩ = some (.string { data := #[] }) := by rw [hr5.cell]; rfl
            have f5 := hr5.free 5
            have q6 : w5.cell? ⟨w.heap.size, 6, none⟩ = some (.slice none 0 0) := by rw [hr5.cell]; rfl
            have f6 := hr5.free 6
            go_wp2_with fail
            (try simp only [Exit.inBlock, Exit.then])
            refine bodyPost_ret (results_tmp_cell_tmp (P := Try.prog) rfl _ _ w.heap.size _ _ _ _ rfl (zero_set hr5) HFS.out rfl Sto.size_state) rfl ?_
            have hz := zset_only w5 w.heap.size
            exact SOpenEnd.no 2 _ HE.out HM.out (by decide) (hD5.keeps hz (by omega) (by omega)) ((hn3.andThen hO6 (fun j hj e => by have e' : B ≤ j := e; omega)).andThen hz (fun k hk e => by have e' : k = w.heap.size := e; omega))
        · obtain rfl : k = L.length := by omega
          rw [List.take_length] at HS
          have hsl := Sto.said_len _ _ _ HS.out
          obtain ⟨⟨ht, hv⟩, ⟨si, st, sc, sd⟩, es⟩ := s
          obtain ⟨-, hh, hsw, v2, hBs, hEs⟩ := hS4
          simp only [stCells] at hh hsw hBs hEs hsl
          have hel : es.length ≤ 1000000000000 := by have : (Sto.first m).es.length = 0 := rfl; omega
          obtain ⟨ao2, cap2, rfl⟩ := hEs.shape
          obtain ⟨hin2, -, -⟩ := hEs.read (by omega)
          have c0 : wr.cell? ⟨B, 0, none⟩ = some (.int .u64 ht) := by rw [hBs.cell]; rfl
          have c1 : wr.cell? ⟨B, 1, none⟩ = some (.int .i64 hv) := by rw [hBs.cell]; rfl
          have c2 : wr.cell? ⟨B, 2, none⟩ = some (.int .u64 si) := by rw [hBs.cell]; rfl
          have c3 : wr.cell? ⟨B, 3, none⟩ = some (.int .u64 st) := by rw [hBs.cell]; rfl
          have c4 : wr.cell? ⟨B, 4, none⟩ = some (.int .u64 sc) := by rw [hBs.cell]; rfl
          have c5 : wr.cell? ⟨B, 5, none⟩ = some (.string sd) := by rw [hBs.cell]; rfl
          have c6 : wr.cell? ⟨B, 6, none⟩ = some (.slice ao2 es.length cap2) := by rw [hBs.cell]; rfl
          go_wp2_with fail
          refine (right_at wr ⟨ht, hv⟩ hh ⟨si, st, sc, sd⟩ hsw ao2 cap2 es hin2 hel).mono ?_
          rintro e w5 ⟨rfl, hO5⟩
          have hD5 := hD4.keeps hO5 (fun h => h) (fun h => h)
          have hr5 := hr4.keeps hO5 (fun h => h)
          have hO6 := hO4.trans hO5.of_no
          cases hrb : rightB ⟨ht, hv⟩ ⟨si, st, sc, sd⟩ es with
          | false =>
            have HE : RowKit.Hid (Sto.openE M n m = 2) := Lib.hid (by unfold Sto.openE; rw [if_neg (by rw [HQ.out]; decide), if_neg (by rw [H0.out]; decide), HL.out, HS.out]; simp only; rw [if_neg (by rw [hrb]; decide)])
            clear hrb c0 c1 c2 c3 c4 c5 c6
            have q0 : w5.cell? ⟨w.heap.size, 0, none⟩ = some (.int .u64 0) := by rw [hr5.cell]; rfl
            have f0 := hr5.free 0
            have q1 : w5.cell? ⟨w.heap.size, 1, none⟩ = some (.int .i64 0) := by rw [hr5.cell]; rfl
            have f1 := hr5.free 1
            have q2 : w5.cell? ⟨w.heap.size, 2, none⟩ = some (.int .u64 0) := by rw [hr5.cell]; rfl
            have f2 := hr5.free 2
            have q3 : w5.cell? ⟨w.heap.size, 3, none⟩ = some (.int .u64 0) := by rw [hr5.cell]; rfl
            have f3 := hr5.free 3
            have q4 : w5.cell? ⟨w.heap.size, 4, none⟩ = some (.int .u64 0) := by rw [hr5.cell]; rfl
            have f4 := hr5.free 4
            have q5 : w5.cell? ⟨w.heap.size, 5, none⟩ = some (.string { data := #[] }) := by rw [hr5.cell]; rfl
            have f5 := hr5.free 5
            have q6 : w5.cell? ⟨w.heap.size, 6, none⟩ = some (.slice none 0 0) := by rw [hr5.cell]; rfl
            have f6 := hr5.free 6
            go_wp2_with fail
            (try simp only [Exit.inBlock, Exit.then])
            refine bodyPost_ret (results_tmp_cell_tmp (P := Try.prog) rfl _ _ w.heap.size _ _ _ _ rfl (zero_set hr5) HFS.out rfl Sto.size_state) rfl ?_
            have hz := zset_only w5 w.heap.size
            exact SOpenEnd.no 2 _ HE.out HM.out (by decide) (hD5.keeps hz (by omega) (by omega)) ((hn3.andThen hO6 (fun j hj e => by have e' : B ≤ j := e; omega)).andThen hz (fun k hk e => by have e' : k = w.heap.size := e; omega))
          | true =>
            have HE : RowKit.Hid (Sto.openE M n m = 0) := Lib.hid (by unfold Sto.openE; rw [if_neg (by rw [HQ.out]; decide), if_neg (by rw [H0.out]; decide), HL.out, HS.out]; simp only; rw [if_pos hrb])
            have HSD : RowKit.Hid (Sto.said (Sto.first m) (Wal.openL M n) = some ⟨⟨ht, hv⟩, ⟨si, st, sc, sd⟩, es⟩) := Lib.hid (by rw [HL.out, HS.out])
            have hL5 : LogAt w5 g d n := Blk.keeps hL4 hO5 (fun h => h)
            have hB5 := hBs.keeps hO5 (fun h => h)
            have hE5 : Ents w5 B (.slice ao2 es.length cap2) es := hEs.keeps hO5 (fun _ _ h => h)
            have hI5 : EntsIn w5 ao2 es := hin2.keeps hO5 (fun _ _ h => h)
            have hn5 := hn3.andThen hO6 (fun j hj e => by have e' : B ≤ j := e; omega)
            have hlt5 := hB5.lt
            clear hrb c0 c1 c2 c3 c4 c5 c6 hL4 hBs hEs hin2 hD4 hr4 hO4 hO5 hO6 hI4 HS hI3 hL3 hD3 hr3 hn3
            have c0 : w5.cell? ⟨B, 0, none⟩ = some (.int .u64 ht) := by rw [hB5.cell]; rfl
            have c1 : w5.cell? ⟨B, 1, none⟩ = some (.int .i64 hv) := by rw [hB5.cell]; rfl
            have c2 : w5.cell? ⟨B, 2, none⟩ = some (.int .u64 si) := by rw [hB5.cell]; rfl
            have c3 : w5.cell? ⟨B, 3, none⟩ = some (.int .u64 st) := by rw [hB5.cell]; rfl
            have c4 : w5.cell? ⟨B, 4, none⟩ = some (.int .u64 sc) := by rw [hB5.cell]; rfl
            have c5 : w5.cell? ⟨B, 5, none⟩ = some (.string sd) := by rw [hB5.cell]; rfl
            have c6 : w5.cell? ⟨B, 6, none⟩ = some (.slice ao2 es.length cap2) := by rw [hB5.cell]; rfl
            have nB := World.new_ne w5 ⟨B, 0, none⟩ c0
            have hRB : w.heap.size ≠ B := by omega
            have hBR : B ≠ w.heap.size := by omega
            have hOa : Only NoBlock w5 w5.drew := (Only.refl NoBlock w5).drew
            have hOb : Only NoBlock w5 (w5.alloc (Obj.cells #[.pointer (some ⟨g, 0, none⟩), .int .u64 ht, .int .i64 hv, .int .u64 si, .int .u64 st, .int .u64 sc, .string sd, .slice ao2 es.length cap2] 100)).drew := ((Only.refl NoBlock w5).alloc _).drew
            have hIa := hI5.keeps hOa (fun _ _ h => h)
            have hIb := hI5.keeps hOb (fun _ _ h => h)
            have hTb := Blk.drew (Blk.made w5 #[.pointer (some ⟨g, 0, none⟩), .int .u64 ht, .int .i64 hv, .int .u64 si, .int .u64 st, .int .u64 sc, .string sd, .slice ao2 es.length cap2] 100)
            go_wp2_with fail
            go_region_held3 (fun w' => w'.cell? ⟨B, 0, none⟩ = some (.int .u64 ht) ∧ w'.cell? ⟨B, 1, none⟩ = some (.int .i64 hv) ∧ w'.cell? ⟨B, 2, none⟩ = some (.int .u64 si) ∧ w'.cell? ⟨B, 3, none⟩ = some (.int .u64 st) ∧ w'.cell? ⟨B, 4, none⟩ = some (.int .u64 sc) ∧ w'.cell? ⟨B, 5, none⟩ = some (.string sd) ∧ w'.cell? ⟨B, 6, none⟩ = some (.slice ao2 es.length cap2))
              (first | with_reducible exact ⟨c0, c1, c2, c3, c4, c5, c6⟩ | go_keep)
              ((go_at_call 40; refine (copied_as _ ht hv si st sc sd ao2 cap2 es (by first | with_reducible exact hIa | with_reducible exact hIb) hel).mono ?_; rintro e w7 ⟨v7, rfl, hE7, hO7⟩; (try (with_reducible have hg7 : Only NoBlock w5.drew w7 := hO7)); (first | (clear hg7) | have hT7 := hTb.keeps hO7 (fun h => h)); have hO57 : Only NoBlock w5 w7 := Only.trans (by first | with_reducible exact hOa | with_reducible exact hOb) hO7; have hE7' := hE7.lower (b' := w5.heap.size) (by simp; try omega); clear hE7; obtain ⟨ao7, cap7, rfl⟩ := hE7'.shape; have hr7 := hr5.keeps hO57 (fun h => h); have hB7 := hB5.keeps hO57 (fun h => h)
                have c0 : w7.cell? ⟨B, 0, none⟩ = some (.int .u64 ht) := by rw [hB7.cell]; rfl
                have c1 : w7.cell? ⟨B, 1, none⟩ = some (.int .i64 hv) := by rw [hB7.cell]; rfl
                have c2 : w7.cell? ⟨B, 2, none⟩ = some (.int .u64 si) := by rw [hB7.cell]; rfl
                have c3 : w7.cell? ⟨B, 3, none⟩ = some (.int .u64 st) := by rw [hB7.cell]; rfl
                have c4 : w7.cell? ⟨B, 4, none⟩ = some (.int .u64 sc) := by rw [hB7.cell]; rfl
                have c5 : w7.cell? ⟨B, 5, none⟩ = some (.string sd) := by rw [hB7.cell]; rfl
                have c6 : w7.cell? ⟨B, 6, none⟩ = some (.slice ao2 es.length cap2) := by rw [hB7.cell]; rfl
                have q0 : w7.cell? ⟨w.heap.size, 0, none⟩ = some (.int .u64 0) := by rw [hr7.cell]; rfl
                have f0 := hr7.free 0
                have q1 : w7.cell? ⟨w.heap.size, 1, none⟩ = some (.int .i64 0) := by rw [hr7.cell]; rfl
                have f1 := hr7.free 1
                have q2 : w7.cell? ⟨w.heap.size, 2, none⟩ = some (.int .u64 0) := by rw [hr7.cell]; rfl
                have f2 := hr7.free 2
                have q3 : w7.cell? ⟨w.heap.size, 3, none⟩ = some (.int .u64 0) := by rw [hr7.cell]; rfl
                have f3 := hr7.free 3
                have q4 : w7.cell? ⟨w.heap.size, 4, none⟩ = some (.int .u64 0) := by rw [hr7.cell]; rfl
                have f4 := hr7.free 4
                have q5 : w7.cell? ⟨w.heap.size, 5, none⟩ = some (.string { data := #[] }) := by rw [hr7.cell]; rfl
                have f5 := hr7.free 5
                have q6 : w7.cell? ⟨w.heap.size, 6, none⟩ = some (.slice none 0 0) := by rw [hr7.cell]; rfl
                have f6 := hr7.free 6
                have n7 := World.new_ne w7 ⟨B, 0, none⟩ c0
                have n7' := World.new_ne w7 ⟨w.heap.size, 0, none⟩ q0
                have hz7 := hr7.alloc (Obj.cells #[.pointer (some ⟨g, 0, none⟩), .int .u64 ht, .int .i64 hv, .int .u64 si, .int .u64 st, .int .u64 sc, .string sd, .slice ao2 es.length cap2] 100)
                have z0 : (w7.alloc (Obj.cells #[.pointer (some ⟨g, 0, none⟩), .int .u64 ht, .int .i64 hv, .int .u64 si, .int .u64 st, .int .u64 sc, .string sd, .slice ao2 es.length cap2] 100)).cell? ⟨w.heap.size, 0, none⟩ = some (.int .u64 0) := by rw [hz7.cell]; rfl
                have y0 := hz7.free 0
                have z1 : (w7.alloc (Obj.cells #[.pointer (some ⟨g, 0, none⟩), .int .u64 ht, .int .i64 hv, .int .u64 si, .int .u64 st, .int .u64 sc, .string sd, .slice ao2 es.length cap2] 100)).cell? ⟨w.heap.size, 1, none⟩ = some (.int .i64 0) := by rw [hz7.cell]; rfl
                have y1 := hz7.free 1
                have z2 : (w7.alloc (Obj.cells #[.pointer (some ⟨g, 0, none⟩), .int .u64 ht, .int .i64 hv, .int .u64 si, .int .u64 st, .int .u64 sc, .string sd, .slice ao2 es.length cap2] 100)).cell? ⟨w.heap.size, 2, none⟩ = some (.int .u64 0) := by rw [hz7.cell]; rfl
                have y2 := hz7.free 2
                have z3 : (w7.alloc (Obj.cells #[.pointer (some ⟨g, 0, none⟩), .int .u64 ht, .int .i64 hv, .int .u64 si, .int .u64 st, .int .u64 sc, .string sd, .slice ao2 es.length cap2] 100)).cell? ⟨w.heap.size, 3, none⟩ = some (.int .u64 0) := by rw [hz7.cell]; rfl
                have y3 := hz7.free 3
                have z4 : (w7.alloc (Obj.cells #[.pointer (some ⟨g, 0, none⟩), .int .u64 ht, .int .i64 hv, .int .u64 si, .int .u64 st, .int .u64 sc, .string sd, .slice ao2 es.length cap2] 100)).cell? ⟨w.heap.size, 4, none⟩ = some (.int .u64 0) := by rw [hz7.cell]; rfl
                have y4 := hz7.free 4
                have z5 : (w7.alloc (Obj.cells #[.pointer (some ⟨g, 0, none⟩), .int .u64 ht, .int .i64 hv, .int .u64 si, .int .u64 st, .int .u64 sc, .string sd, .slice ao2 es.length cap2] 100)).cell? ⟨w.heap.size, 5, none⟩ = some (.string { data := #[] }) := by rw [hz7.cell]; rfl
                have y5 := hz7.free 5
                have z6 : (w7.alloc (Obj.cells #[.pointer (some ⟨g, 0, none⟩), .int .u64 ht, .int .i64 hv, .int .u64 si, .int .u64 st, .int .u64 sc, .string sd, .slice ao2 es.length cap2] 100)).cell? ⟨w.heap.size, 6, none⟩ = some (.slice none 0 0) := by rw [hz7.cell]; rfl
                have y6 := hz7.free 6
                have HB7 := Lib.hid hB7; have HR7 := Lib.hid hr7; (try have HT7 := Lib.hid hT7); have HE7 := Lib.hid hE7'; have HO57 := Lib.hid hO57; clear hz7 hB7 hr7 hE7' hO57 hO7; (try clear hT7); clear hOa hOb hIa hIb hTb nB))
            · have hR := vset_blk HR7.out (.int .u64 ht) (.int .i64 hv) (.int .u64 si) (.int .u64 st) (.int .u64 sc) (.string sd) (.slice ao7 es.length cap7)
              have hz := vset_only w7 w.heap.size (.int .u64 ht) (.int .i64 hv) (.int .u64 si) (.int .u64 st) (.int .u64 sc) (.string sd) (.slice ao7 es.length cap7)
              have hTz := HT7.out.keeps hz (fun e => by have e' : w5.heap.size = w.heap.size := e; omega)
              have hEz := HE7.out.keeps hz (fun k hk e => by have := (World.ownsRow.lt HE7.out.1 k hk).1; have e' : k = w.heap.size := e; omega)
              have hE2 := (hE5.keeps HO57.out (fun _ _ h => h)).keeps hz (fun k hk e => by have := (World.ownsRow.lt hE5.1 k hk).1; have e' : k = w.heap.size := e; omega)
              have hDz := (hD5.keeps HO57.out (fun h => h) (fun h => h)).keeps hz (by omega) (by omega)
              have hLz : LogAt _ g d n := Blk.keeps (Blk.keeps hL5 HO57.out (fun h => h)) hz (by omega)
              have hOz := (hn5.andThen HO57.out (fun _ _ h => h.elim)).andThen hz (fun k hk e => by have e' : k = w.heap.size := e; omega)
              go_wp2_with fail
              (try simp only [Exit.inBlock, Exit.then])
              refine bodyPost_ret (results_tmp_cell_tmp (P := Try.prog) rfl _ _ w.heap.size _ _ _ _ rfl hR HFS.out rfl Sto.size_state) rfl ?_
              exact SOpenEnd.ok w5.heap.size g ⟨⟨ht, hv⟩, ⟨si, st, sc, sd⟩, es⟩ _ _ HE.out HM.out HSD.out (by omega) hLz ⟨hh, hsw, _, hTz, hE2.lower (by omega)⟩ ⟨_, rfl, hEz.lower (by omega)⟩ hDz hOz
            · have hA7 := (Only.refl NoBlock w7).alloc (Obj.cells #[.pointer (some ⟨g, 0, none⟩), .int .u64 ht, .int .i64 hv, .int .u64 si, .int .u64 st, .int .u64 sc, .string sd, .slice ao2 es.length cap2] 100)
              have hz7 := HO57.out.size
              have hT7 := Blk.made w7 #[.pointer (some ⟨g, 0, none⟩), .int .u64 ht, .int .i64 hv, .int .u64 si, .int .u64 st, .int .u64 sc, .string sd, .slice ao2 es.length cap2] 100
              have hR := vset_blk (HR7.out.alloc (Obj.cells #[.pointer (some ⟨g, 0, none⟩), .int .u64 ht, .int .i64 hv, .int .u64 si, .int .u64 st, .int .u64 sc, .string sd, .slice ao2 es.length cap2] 100)) (.int .u64 ht) (.int .i64 hv) (.int .u64 si) (.int .u64 st) (.int .u64 sc) (.string sd) (.slice ao7 es.length cap7)
              have hz := vset_only (w7.alloc (Obj.cells #[.pointer (some ⟨g, 0, none⟩), .int .u64 ht, .int .i64 hv, .int .u64 si, .int .u64 st, .int .u64 sc, .string sd, .slice ao2 es.length cap2] 100)) w.heap.size (.int .u64 ht) (.int .i64 hv) (.int .u64 si) (.int .u64 st) (.int .u64 sc) (.string sd) (.slice ao7 es.length cap7)
              have hTz := hT7.keeps hz (fun e => by have e' : w7.heap.size = w.heap.size := e; omega)
              have hEz := (HE7.out.keeps hA7 (fun _ _ h => h)).keeps hz (fun k hk e => by have := (World.ownsRow.lt HE7.out.1 k hk).1; have e' : k = w.heap.size := e; omega)
              have hE2 := ((hE5.keeps HO57.out (fun _ _ h => h)).keeps hA7 (fun _ _ h => h)).keeps hz (fun k hk e => by have := (World.ownsRow.lt hE5.1 k hk).1; have e' : k = w.heap.size := e; omega)
              have hDz := ((hD5.keeps HO57.out (fun h => h) (fun h => h)).keeps hA7 (fun h => h) (fun h => h)).keeps hz (by omega) (by omega)
              have hLz : LogAt _ g d n := Blk.keeps (Blk.keeps (Blk.keeps hL5 HO57.out (fun h => h)) hA7 (fun h => h)) hz (by omega)
              have hOz := ((hn5.andThen HO57.out (fun _ _ h => h.elim)).andThen hA7 (fun _ _ h => h.elim)).andThen hz (fun k hk e => by have e' : k = w.heap.size := e; omega)
              go_wp2_with fail
              (try simp only [Exit.inBlock, Exit.then])
              refine bodyPost_ret (results_tmp_cell_tmp (P := Try.prog) rfl _ _ w.heap.size _ _ _ _ rfl hR HFS.out rfl Sto.size_state) rfl ?_
              exact SOpenEnd.ok w7.heap.size g ⟨⟨ht, hv⟩, ⟨si, st, sc, sd⟩, es⟩ _ _ HE.out HM.out HSD.out (by omega) hLz ⟨hh, hsw, _, hTz, hE2.lower (by omega)⟩ ⟨_, rfl, hEz.lower (by omega)⟩ hDz hOz
    · have HE : RowKit.Hid (Sto.openE M n m = Wal.openE M n) := Lib.hid (by unfold Sto.openE; rw [if_neg (by rw [HQ.out]; decide), if_pos h0])
      generalize Wal.openE M n = x at h0 HE ⊢
      have d0 : (x != 0) = true := by simpa using h0
      have H0 := Lib.hid h0
      clear h0
      go_wp2_with fail
      (try simp only [Exit.inBlock, Exit.then])
      refine bodyPost_ret (results_tmp_cell_tmp (P := Try.prog) rfl _ _ w.heap.size _ _ _ _ rfl (zero_set hr2) HFS.out rfl Sto.size_state) rfl ?_
      have hz := zset_only w2 w.heap.size
      exact SOpenEnd.no x _ HE.out HM.out H0.out (hD2.keeps hz (by omega) (by omega)) (hn2.andThen hz (fun k hk e => by have e' : k = w.heap.size := e; omega))
end Go.Proofs.Ytekmjhenhgmpgaa
