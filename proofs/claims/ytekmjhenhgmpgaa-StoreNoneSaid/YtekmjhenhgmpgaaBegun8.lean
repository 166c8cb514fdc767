/- A store is opened: what is answered, given by equations; the anchor of the store's statements holds. -/
import Derived.Test.YtekmjhenhgmpgaaLib8
namespace Go.Proofs.Ytekmjhenhgmpgaa
open Go.RowKit
set_option maxRecDepth 100000

theorem Wal.recs_short (s : ByteArray) : ∀ b ∈ Wal.recs s, b.size ≤ 65536 := by
  obtain ⟨t, h1, h2, -, h3, -⟩ := Wal.scan_sound (r := nums s) (nums_byte s)
  intro b hb
  unfold Wal.recs at hb
  obtain ⟨x, hx, rfl⟩ := List.mem_map.1 hb
  rw [textOf_size]
  exact (h3 x hx).2
theorem Sto.open_len {M : DM} (hM : M.Ok) (n : Int) : (Wal.openL M n).length ≤ 1048576 := Nat.le_trans (Wal.recs_few _) (Wal.read_size hM n)

theorem sopen_ok {w : World} {d mb : Nat} {M : DM} {n : Int} {m : Nat} (h : DiskAt w d mb M) (hw : (Lit.int .i64 n).wf = true) (hm : m < 18446744073709551616) (hE : Sto.openE M n m = 0) {M' : DM} (hM : Sto.openM M n m = M') {s : St} (hs : Sto.said (Sto.first m) (Wal.openL M n) = some s) :
    Calls Try.prog 14 #[.pointer (some ⟨d, 0, none⟩), .int .i64 n, .int .u64 m] w fun e w' => ∃ t g ao cap, e = .returned (.tuple #[.pointer (some ⟨t, 0, none⟩), .agg (stCells s.hard s.snap (.slice ao s.es.length cap)), .int .i64 0]) ∧
      w.heap.size ≤ t ∧ LogAt w' g d n ∧ StoreAt w' w.heap.size t g s ∧ EntsIn w' ao s.es ∧ (∀ a, ao = some a → w.heap.size ≤ a.block) ∧ s.es.length ≤ 1048576 ∧ DiskAt w' d mb M' ∧ Only (fun k => k = d ∨ k = mb) w w' := by
  have hlen := Sto.open_len h.ok n
  refine (storeopen_at w d mb M n m h hw hm (fun b hb => Nat.le_trans (Wal.recs_short _ b hb) (by decide)) (by omega)).mono ?_
  rintro e w' ⟨pt, x, rfl, hd, ho, ⟨h0, t, g, s', hs', rfl, ht, hl, hst, v, rfl, hv⟩ | ⟨h0, -⟩⟩
  · rw [hs] at hs'
    cases hs'
    have hle := Sto.said_len _ _ _ hs
    have hle2 : s.es.length ≤ 1048576 := by have : (Sto.first m).es.length = 0 := rfl; omega
    have hlt := World.ownsRow.lt hv.1
    obtain ⟨ao, cap, rfl⟩ := hv.shape
    exact ⟨t, g, ao, cap, by rw [hE], ht, hl, hst, (hv.read (by omega)).1, fun a e => by subst e; exact (hlt _ rfl).1, hle2, hM ▸ hd, ho⟩
  · exact absurd hE h0
theorem sopen_no {w : World} {d mb : Nat} {M : DM} {n : Int} {m : Nat} (h : DiskAt w d mb M) (hw : (Lit.int .i64 n).wf = true) (hm : m < 18446744073709551616) {k : Int} (hE : Sto.openE M n m = k) (hk : k ≠ 0) {M' : DM} (hM : Sto.openM M n m = M') :
    Calls Try.prog 14 #[.pointer (some ⟨d, 0, none⟩), .int .i64 n, .int .u64 m] w fun e w' => e = .returned (.tuple #[.pointer none, noState, .int .i64 k]) ∧ DiskAt w' d mb M' ∧ Only (fun k => k = d ∨ k = mb) w w' := by
  have hlen := Sto.open_len h.ok n
  refine (storeopen_at w d mb M n m h hw hm (fun b hb => Nat.le_trans (Wal.recs_short _ b hb) (by decide)) (by omega)).mono ?_
  rintro e w' ⟨pt, x, rfl, hd, ho, ⟨h0, -⟩ | ⟨h0, rfl, rfl⟩⟩
  · exact absurd (hE ▸ h0) hk
  · exact ⟨by rw [hE], hM ▸ hd, ho⟩
theorem save_as {w : World} {base t g d mb : Nat} {M : DM} {n : Int} {s : St} {h : Hrd} (hh : h.Wf) {ao : Option Addr} {cap len : Nat} {l : List Ent}
    (hd : DiskAt w d mb M) (hw : (Lit.int .i64 n).wf = true) (hg : LogAt w g d n) (hS : StoreAt w base t g s) (hbase : base ≤ w.heap.size) (hl : EntsIn w ao l) (hlen : l.length = len)
    (hse : s.es.length ≤ 1000000000) (hle : l.length ≤ 1000000000) (hdat : ∀ e ∈ l, e.data.size ≤ 1000000000) (hsz : (Wal.text (Sto.out s h l)).size ≤ 1000000000)
    {k : Int} (hE : Sto.saveE M n s h l = k) {M' : DM} (hM : Sto.saveM M n s h l = M') {s' : St} (hs : Sto.saveS M n s h l = s') :
    Calls Try.prog 19 #[.pointer (some ⟨t, 0, none⟩), .agg #[.int .u64 h.term, .int .i64 h.vote], .slice ao len cap] w (StoreEnd k M' s' base t g d mb w) := by
  subst hE; subst hM; subst hs; subst hlen
  exact save_at w base t g d mb M n s h hh ao cap l hd hw hg hS hbase hl hse hle hdat hsz

namespace Bg8
def N0 : DM := DM.new 1000
def N1 : DM := Sto.openM N0 0 7
def s0 : St := ⟨⟨0, -1⟩, ⟨0, 0, 7, ByteArray.empty⟩, []⟩
def hd : Hrd := ⟨3, 1⟩
def en : Ent := ⟨3, 1, 0, ByteArray.empty⟩
def N2 : DM := Sto.saveM N1 0 s0 hd [en]
def N3 : DM := N2.crash (keepOf [])
def N4 : DM := Sto.openM N3 0 7
def s1 : St := ⟨⟨3, 1⟩, ⟨0, 0, 7, ByteArray.empty⟩, [en]⟩
theorem e1 : Sto.openE N0 0 7 = 0 := by decide +kernel
theorem r1 : Sto.said (Sto.first 7) (Wal.openL N0 0) = some s0 := by decide +kernel
theorem e2 : Sto.saveE N1 0 s0 hd [en] = 0 := by decide +kernel
theorem z2 : (Wal.text (Sto.out s0 hd [en])).size ≤ 1000000000 := by decide +kernel
theorem e3 : Sto.openE N3 0 7 = 0 := by decide +kernel
theorem r3 : Sto.said (Sto.first 7) (Wal.openL N3 0) = some s1 := by decide +kernel
theorem hdwf : hd.Wf := ⟨by decide, by decide⟩
theorem enwf : en.Wf := ⟨by decide, by decide, by decide, by decide⟩
end Bg8
theorem ents_one (w : World) (e : Ent) (he : e.Wf) (t : TypeId) : EntsIn (w.alloc (.cells #[.int .u64 e.term, .int .u64 e.index, .int .i64 e.kind, .string e.data] t)) (some ⟨w.heap.size, 0, none⟩) [e] := by
  have hb := Blk.made w #[.int .u64 e.term, .int .u64 e.index, .int .i64 e.kind, .string e.data] t
  refine ⟨by simpa using he, by simp [maxLen], fun i hi => ?_⟩
  have hi0 : i = 0 := by simp at hi; omega
  subst hi0
  refine ⟨w.heap.size, 0, rfl, ?_, ?_, ?_, ?_⟩
  · rw [hb.cell]; rfl
  · rw [hb.cell]; rfl
  · rw [hb.cell]; rfl
  · rw [hb.cell]; rfl
end Go.Proofs.Ytekmjhenhgmpgaa
