/- A log of a disk that is on and has fuel is opened, whatever the file is; a row of zeros made. -/
import Derived.Test.YtfmpmdkedpollaaLogM
import Derived.Test.YtfmpmdkedpollaaBytes
namespace Go.Proofs.Ytfmpmdkedpollaa
open Go.RowKit

structure Full (M : DM) : Prop where
  ok : M.Ok
  off : M.off = false
  fuel : M.fuel = -1
theorem Full.steps {M : DM} (h : Full M) : M.steps = true := by unfold DM.steps; rw [h.off, h.fuel]; rfl
theorem Full.stepped {M : DM} (h : Full M) : M.stepped = M := by
  unfold DM.stepped
  rw [h.off, h.fuel, if_neg (by decide), if_neg (by decide), if_neg (by decide)]
theorem Full.new : Full (DM.new 1048576) := by
  refine ⟨⟨by decide, by decide, ?_, by simp [DM.new], by simp [DM.new], fun x f h => by cases h⟩, rfl, rfl⟩
  unfold DM.new DM.used
  rw [tot_none]
  decide
theorem Full.replaceE {M : DM} (h : Full M) {n : Int} (h0 : 0 ≤ n) (h1 : n < 16) {s : ByteArray} (hs : s.size ≤ fsz (M.files n)) : M.replaceE n s = 0 := by
  unfold DM.replaceE
  have hu := h.ok.used
  rw [if_neg (by omega), h.off, if_neg (by decide), if_neg (by omega), h.steps, if_neg (by decide)]
theorem Full.replace {M : DM} (h : Full M) {n : Int} (h0 : 0 ≤ n) (h1 : n < 16) {s : ByteArray} (hs : s.size ≤ fsz (M.files n)) : M.replace n s = { M with files := M.files.put n (s, ByteArray.empty) } := by
  unfold DM.replace
  have hu := h.ok.used
  rw [if_neg (by omega), h.off, if_neg (by decide), if_neg (by omega), h.steps, if_neg (by decide), h.stepped]
  show (⟨_, _, _, M.off⟩ : DM) = ⟨_, _, _, false⟩
  rw [h.off]
theorem Full.syncE {M : DM} (h : Full M) {n : Int} (hs : (M.files n).isSome = true) : M.syncE n = 0 := by
  unfold DM.syncE
  rw [h.off, if_neg (by decide), hs, if_neg (by decide), h.steps, if_neg (by decide)]
theorem Full.sync {M : DM} (h : Full M) {n : Int} (hs : (M.files n).isSome = true) : M.sync n = { M with files := M.files.put n (((M.files n).getD noFile).1 ++ ((M.files n).getD noFile).2, ByteArray.empty) } := by
  unfold DM.sync
  rw [h.off, if_neg (by decide), hs, if_neg (by decide), h.steps, if_neg (by decide), h.stepped]
  show (⟨_, _, _, M.off⟩ : DM) = ⟨_, _, _, false⟩
  rw [h.off]
theorem Full.with {M : DM} (h : Full M) {F : Fs} (hok : DM.Ok { M with files := F }) : Full { M with files := F } := ⟨hok, h.off, h.fuel⟩

/-- opening: it goes, and the disk is on and has fuel -/
theorem Full.open {M : DM} (h : Full M) {n : Int} (h0 : 0 ≤ n) (h1 : n < 16) : Wal.openE M n = 0 ∧ (Wal.openM M n).off = false ∧ (Wal.openM M n).fuel = -1 := by
  have hn : ¬ (n < 0 ∨ 16 ≤ n) := by omega
  cases hf : M.files n with
  | none =>
    have r1 : M.readE n = 12 := by unfold DM.readE; rw [h.off, if_neg (by decide), hf]; rfl
    have r2 : M.read n = ByteArray.empty := by unfold DM.read; rw [h.off, if_neg (by decide), hf]; rfl
    have hs : ByteArray.empty.size ≤ fsz (M.files n) := Nat.zero_le _
    have e1 : Wal.o0E M n = 0 := by unfold Wal.o0E; rw [r1, if_pos rfl, h.replaceE h0 h1 hs]
    have e2 : Wal.o0 M n = { M with files := M.files.put n (ByteArray.empty, ByteArray.empty) } := by unfold Wal.o0; rw [r1, if_pos rfl, h.replace h0 h1 hs]
    have hu : (({ M with files := M.files.put n (ByteArray.empty, ByteArray.empty) } : DM).used : Int) = M.used := by
      have := tot_put (F := M.files) h0 h1 (ByteArray.empty, ByteArray.empty)
      rw [hf] at this
      unfold DM.used
      have e0 : fsz none = 0 := rfl
      have e3 : ByteArray.empty.size = 0 := rfl
      simp only [e0, e3] at this
      show ((tot (M.files.put n (ByteArray.empty, ByteArray.empty)) 16 : Nat) : Int) = _
      omega
    have h2 : Full { M with files := M.files.put n (ByteArray.empty, ByteArray.empty) } := h.with ⟨h.ok.room0, h.ok.room1, by rw [hu]; exact h.ok.used, h.ok.fuel0, h.ok.fuel1, by
      intro x f hx
      have hx' : (M.files.put n (ByteArray.empty, ByteArray.empty)) x = some f := hx
      unfold Fs.put at hx'
      split at hx'
      · omega
      · exact h.ok.keys x f hx'⟩
    have hsome : (({ M with files := M.files.put n (ByteArray.empty, ByteArray.empty) } : DM).files n).isSome = true := by simp [Fs.put]
    have hw : ¬ (Wal.whole ByteArray.empty < ByteArray.empty.size) := by have : ByteArray.empty.size = 0 := rfl; omega
    refine ⟨?_, ?_, ?_⟩
    · unfold Wal.openE Wal.o1E
      rw [if_neg hn, e1, if_pos rfl, r2, if_neg hw, e2]
      exact h2.syncE hsome
    · unfold Wal.openM Wal.o1
      rw [if_neg hn, e1, if_pos rfl, r2, if_neg hw, e2, h2.sync hsome]
      exact h.off
    · unfold Wal.openM Wal.o1
      rw [if_neg hn, e1, if_pos rfl, r2, if_neg hw, e2, h2.sync hsome]
      exact h.fuel
  | some f =>
    have hsome : (M.files n).isSome = true := by rw [hf]; rfl
    have r1 : M.readE n = 0 := by unfold DM.readE; rw [h.off, if_neg (by decide), hf, if_neg (by simp)]
    have r2 : M.read n = f.1 ++ f.2 := by unfold DM.read; rw [h.off, if_neg (by decide), hf, if_neg (by simp)]; rfl
    have e1 : Wal.o0E M n = 0 := by unfold Wal.o0E; rw [r1, if_neg (by decide)]
    have e2 : Wal.o0 M n = M := by unfold Wal.o0; rw [r1, if_neg (by decide)]
    have hwl := Wal.whole_le (f.1 ++ f.2)
    have hsz : fsz (M.files n) = (f.1 ++ f.2).size := by rw [hf, ByteArray.size_append]; rfl
    have hs : ((f.1 ++ f.2).extract 0 (Wal.whole (f.1 ++ f.2))).size ≤ fsz (M.files n) := by rw [hsz]; simp; omega
    refine ⟨?_, ?_, ?_⟩
    · unfold Wal.openE Wal.o1E
      rw [if_neg hn, e1, if_pos rfl, r2, e2]
      split
      · exact h.replaceE h0 h1 hs
      · exact h.syncE hsome
    · unfold Wal.openM Wal.o1
      rw [if_neg hn, e1, if_pos rfl, r2, e2]
      split
      · rw [h.replace h0 h1 hs]; exact h.off
      · rw [h.sync hsome]; exact h.off
    · unfold Wal.openM Wal.o1
      rw [if_neg hn, e1, if_pos rfl, r2, e2]
      split
      · rw [h.replace h0 h1 hs]; exact h.fuel
      · rw [h.sync hsome]; exact h.fuel

section
variable {ops : Array Oper} {rest : List Oper} {o : Oper} {a : Act} {Q : Exit → Act → World → Prop}
/-- 'make([]byte, n)' -/
theorem wpList_make_bytes (w : World) (hg : o.guard = none) (l c : Operand) (hop : o.op = Op.makeSlice 46 l c)
    (base : Nat) (kl kc : IntKind) (L C : Int) (n : Nat) (hl : a.eval l = .int kl L) (hc : a.eval c = .int kc C) (hL : L = (n : Int)) (hC : C = (n : Int)) (b2 : n ≤ 140737488355328) (b4 : base ≤ w.heap.size)
    (hK : ∀ w', Bts w' base (.slice (some ⟨w.heap.size, 0, none⟩) (List.replicate n (0 : Int)).length n) (List.replicate n 0) → w.grownBy w' none → wpList Try.prog ops Q rest (a.put o.dst (.slice (some ⟨w.heap.size, 0, none⟩) (List.replicate n (0 : Int)).length n)) w') :
    wpList Try.prog ops Q (o :: rest) a w := by
  obtain ⟨i, hi, hz, hsz, hby⟩ := info_parts By.info
  have hrl : (List.replicate n (0 : Int)).length = n := List.length_replicate
  rw [hrl] at hK
  refine wpList_make_full w hg l c 46 hop base 5 i (.int .u8 0) 1 By.u_bytes hi hz hsz kl kc L C n hl hc hL hC (by rw [hby]; omega) (by unfold maxLen; omega) b4 ?_
  intro w' h1 h2
  refine hK w' ?_ h2
  unfold Bts
  rw [hrl]
  have hz1 : (Value.int .u8 0).cells = #[Value.int .u8 0] := rfl
  rw [hz1, Nat.mul_one, toList_madeCells_one] at h1
  rw [List.map_replicate]
  exact h1
end
end Go.Proofs.Ytfmpmdkedpollaa
