/- What the log's statements lean on: the anchor holds; lists of texts are compared; texts that are not too long in all. -/
import Derived.Test.YtfmpmdkedpollaaLog
import Derived.Test.YtfmpmdkedpollaaOpenT
import Derived.Test.YtfmpmdkedpollaaBegun4
namespace Go.Proofs.Ytfmpmdkedpollaa
open Go.RowKit

theorem open_ok {w : World} {d mb : Nat} {M : DM} {n : Int} (h : DiskAt w d mb M) (hw : (Lit.int .i64 n).wf = true) (hE : Wal.openE M n = 0) {M' : DM} (hM : Wal.openM M n = M') {l : List ByteArray} (hL : Wal.openL M n = l) :
    Calls Try.prog 18 #[.pointer (some ⟨d, 0, none⟩), .int .i64 n] w fun e w' => ∃ g ao cap, e = .returned (.tuple #[.pointer (some ⟨g, 0, none⟩), .slice ao l.length cap, .int .i64 0]) ∧ w.heap.size ≤ g ∧ LogAt w' g d n ∧ StrsIn w' ao l ∧
      (∀ a, ao = some a → w.heap.size ≤ a.block) ∧ DiskAt w' d mb M' ∧ Only (fun k => k = d ∨ k = mb) w w' := by
  subst hM; subst hL
  refine (open_at w d mb M n h hw).mono ?_
  rintro e w' ⟨p, v, rfl, hd, ho, h1 | h1⟩
  · obtain ⟨_, g, rfl, hg, hl, hv⟩ := h1
    have hlt := World.ownsRow.lt hv
    obtain ⟨ao, cap, rfl, hv, _⟩ := hv.isIn
    exact ⟨g, ao, cap, by rw [hE], hg, hl, hv, fun a e => by subst e; exact (hlt _ rfl).1, hd, ho⟩
  · exact absurd hE h1.1
theorem open_no {w : World} {d mb : Nat} {M : DM} {n : Int} (h : DiskAt w d mb M) (hw : (Lit.int .i64 n).wf = true) {k : Int} (hE : Wal.openE M n = k) (hk : k ≠ 0) {M' : DM} (hM : Wal.openM M n = M') :
    Calls Try.prog 18 #[.pointer (some ⟨d, 0, none⟩), .int .i64 n] w fun e w' => e = .returned (.tuple #[.pointer none, .slice none 0 0, .int .i64 k]) ∧ DiskAt w' d mb M' ∧ Only (fun k => k = d ∨ k = mb) w w' := by
  subst hM; subst hE
  refine (open_at w d mb M n h hw).mono ?_
  rintro e w' ⟨p, v, rfl, hd, ho, h1 | h1⟩
  · exact absurd h1.1 hk
  · obtain ⟨_, rfl, rfl⟩ := h1
    exact ⟨rfl, hd, ho⟩
theorem log_append_as {w : World} {g d mb : Nat} {M : DM} {n : Int} {ao : Option Addr} {cap len : Nat} {l : List ByteArray} (h : DiskAt w d mb M) (hg : LogAt w g d n) (hw : (Lit.int .i64 n).wf = true) (hl : StrsIn w ao l) (hlen : l.length = len) (hsz : (Wal.text l).size ≤ 1000000000)
    {k : Int} (hk : Wal.appE M n l = k) {M' : DM} (hM : Wal.app M n l = M') :
    Calls Try.prog 19 #[.pointer (some ⟨g, 0, none⟩), .slice ao len cap] w (LogEnd k M' d mb w) := by
  subst hk; subst hM; subst hlen; exact log_append_at w g d mb M n ao cap l h hg hw hl hsz
theorem log_anew_as {w : World} {g d mb : Nat} {M : DM} {n : Int} {ao : Option Addr} {cap len : Nat} {l : List ByteArray} (h : DiskAt w d mb M) (hg : LogAt w g d n) (hw : (Lit.int .i64 n).wf = true) (hl : StrsIn w ao l) (hlen : l.length = len) (hsz : (Wal.text l).size ≤ 1000000000)
    {k : Int} (hk : Wal.anewE M n l = k) {M' : DM} (hM : Wal.anew M n l = M') :
    Calls Try.prog 24 #[.pointer (some ⟨g, 0, none⟩), .slice ao len cap] w (LogEnd k M' d mb w) := by
  subst hk; subst hM; subst hlen; exact log_anew_at w g d mb M n ao cap l h hg hw hl hsz
theorem strs_one (w : World) (x : ByteArray) (t : TypeId) : StrsIn (w.alloc (.cells #[.string x] t)) (some ⟨w.heap.size, 0, none⟩) [x] := by
  refine ⟨by simp [maxLen], fun i hi => ⟨w.heap.size, 0, rfl, ?_⟩⟩
  have hi0 : i = 0 := by simp at hi; omega
  subst hi0
  simp

theorem ba_list {x y : ByteArray} (h : x ≠ y) : x.toList ≠ y.toList := by
  rw [ByteArray.toList_eq, ByteArray.toList_eq]
  obtain ⟨⟨a⟩⟩ := x
  obtain ⟨⟨b⟩⟩ := y
  intro e
  exact h (by cases e; rfl)
theorem ba_ne {x y : ByteArray} (h : x ≠ y) : (!(x.toList == y.toList)) = true := by
  have := ba_list h
  simpa using this
theorem ba_neb {x y : ByteArray} (h : x ≠ y) : (x.toList == y.toList) = false := by
  have := ba_list h
  simpa using this

/-! ### Same -/
set_option maxHeartbeats 1000000 in
theorem same_at (w : World) (ao bo : Option Addr) (ca cb : Nat) (l m : List ByteArray) (hl : StrsIn w ao l) (hm : StrsIn w bo m) :
    Calls Try.prog 13 #[.slice ao l.length ca, .slice bo m.length cb] w fun e w' => e = .returned (.bool (decide (l = m))) ∧ ∃ q, w' = w.drewN q := by
  have hla := hl.len
  have hlb := hm.len
  unfold maxLen at hla hlb
  by_cases hlen : l.length = m.length
  · have hlb2 : ((l.length : Int) != (m.length : Int)) = false := by simp [hlen]
    have HL := Lib.hid hlen
    clear hlen
    go_enter Try.func13, Try.ntmps13
    go_wp2_with fail
    go_loopw [5] (fun i wr => ∃ (k q : Nat), k ≤ l.length ∧ i = .int .i64 k ∧ wr = w.drewN q ∧ RowKit.Hid (l.take k = m.take k)) (fun i _ => l.length - (intOf i).toNat)
    case atStart => exact ⟨0, 0, by omega, rfl, rfl, Lib.hid rfl⟩
    case round =>
      obtain ⟨k, q, hk, rfl, rfl, HS⟩ := hrel
      by_cases hlt : k < l.length
      · have hlt2 : k < m.length := by rw [← HL.out]; exact hlt
        obtain ⟨b1, o1, rfl, c1⟩ := hl.at hlt
        obtain ⟨b2, o2, rfl, c2⟩ := hm.at hlt2
        have t1 := Wal.take_snoc hlt
        have t2 := Wal.take_snoc hlt2
        have hg1 : l[k]? = some (l.getD k ByteArray.empty) := by rw [List.getD_eq_getElem?_getD, List.getElem?_eq_getElem hlt]; rfl
        have hg2 : m[k]? = some (m.getD k ByteArray.empty) := by rw [List.getD_eq_getElem?_getD, List.getElem?_eq_getElem hlt2]; rfl
        have HT := Lib.hid (And.intro t1 (And.intro t2 (And.intro hg1 hg2)))
        clear t1 t2 hg1 hg2
        generalize l.getD k ByteArray.empty = x at c1 HT
        generalize m.getD k ByteArray.empty = y at c2 HT
        by_cases hxy : x = y
        · subst hxy
          go_wp2_with fail
          go_quiet (fail)
          go_wp2_with fail
          refine ⟨⟨k + 1, q + nq, by omega, by go_num, rfl, Lib.hid (by obtain ⟨h1, h2, _⟩ := HT.out; rw [h1, h2, HS.out])⟩, by simp [intOf]; omega⟩
        · have hxb := ba_ne hxy
          have hne : ¬ l = m := by
            intro e
            obtain ⟨_, _, h3, h4⟩ := HT.out
            rw [e, h4] at h3
            cases h3
            exact hxy rfl
          have HN : RowKit.Hid (decide (l = m) = false) := Lib.hid (by simpa using hne)
          clear hxy hne
          go_wp2_with fail
          go_quiet (fail)
          go_wp2_with fail
          go_ret
          exact ⟨by rw [HN.out]; rfl, _, World.drewN_drewN w q _⟩
      · obtain rfl : k = l.length := by omega
        have he : l = m := by
          have := HS.out
          rw [List.take_length, HL.out, List.take_length] at this
          exact this
        have HN : RowKit.Hid (decide (l = m) = true) := Lib.hid (by simpa using he)
        clear he
        go_wp2_with fail
        go_ret
        exact ⟨by rw [HN.out]; rfl, _, rfl⟩
  · have hlb2 : ((l.length : Int) != (m.length : Int)) = true := by simp; omega
    have HN : RowKit.Hid (decide (l = m) = false) := Lib.hid (by simp; intro e; exact hlen (by rw [e]))
    clear hlen
    go_enter Try.func13, Try.ntmps13
    go_wp2_with fail
    go_ret
    exact ⟨by rw [HN.out]; rfl, 0, rfl⟩
theorem same_as {w : World} {ao bo : Option Addr} {ca cb la lb : Nat} {l m : List ByteArray} (hl : StrsIn w ao l) (hm : StrsIn w bo m) (h1 : l.length = la) (h2 : m.length = lb) {b : Bool} (hb : decide (l = m) = b) :
    Calls Try.prog 13 #[.slice ao la ca, .slice bo lb cb] w fun e w' => e = .returned (.bool b) ∧ ∃ q, w' = w.drewN q := by
  subst h1; subst h2; subst hb; exact same_at w ao bo ca cb l m hl hm

theorem scan_as {w : World} {s : ByteArray} (hs : s.size ≤ 1000000000) {m : List ByteArray} {k : Nat} (h : (Wal.scan (nums s)).1.map textOf = m) (hk : (Wal.scan (nums s)).2 = k) :
    Calls Try.prog 11 #[.string s] w fun e w' => ∃ ao cap, e = .returned (.tuple #[.slice ao m.length cap, .int .i64 k]) ∧ StrsIn w' ao m ∧ (∀ a, ao = some a → w.heap.size ≤ a.block) ∧ Only NoBlock w w' := by
  subst h; subst hk
  refine (scan_at w s hs).mono ?_
  rintro e w' ⟨v, rfl, hv, ho⟩
  have hlt := World.ownsRow.lt hv
  obtain ⟨ao, cap, rfl, hv, _⟩ := hv.isIn
  exact ⟨ao, cap, rfl, hv, fun a e => by subst e; exact (hlt _ rfl).1, ho⟩

/-! ### small -/
def total (l : List ByteArray) : Nat := (l.map (fun s => s.size)).sum
theorem total_snoc (l : List ByteArray) (s : ByteArray) : total (l ++ [s]) = total l + s.size := by simp [total]
def small (l : List ByteArray) : Prop := total l ≤ 20000 ∧ l.length ≤ 200
theorem total_take (l : List ByteArray) (k : Nat) : total (l.take k) ≤ total l := by
  have : total l = total (l.take k) + total (l.drop k) := by
    conv => lhs; rw [← List.take_append_drop k l]
    simp only [total, List.map_append, List.sum_append]
  omega
theorem total_bound {l : List ByteArray} {B : Nat} (h : ∀ i, i < l.length → (l.getD i ByteArray.empty).size ≤ B) : ∀ k, total (l.take k) ≤ k * B
  | 0 => by simp [total]
  | k + 1 => by
    by_cases hk : k < l.length
    · rw [Wal.take_snoc hk, total_snoc, Nat.succ_mul]
      have := total_bound h k
      have := h k hk
      omega
    · have e : l.take (k + 1) = l.take k := by rw [List.take_of_length_le (by omega), List.take_of_length_le (by omega)]
      rw [e, Nat.succ_mul]
      have := total_bound h k
      omega
/-- how long the frames of texts are -/
theorem text_total (l : List ByteArray) : (Wal.text l).size ≤ 2 * total l + 8 * l.length := by
  induction l with
  | nil => simp [Wal.text_nil]
  | cons x r ih =>
    have e : Wal.text (x :: r) = Wal.text [x] ++ Wal.text r := Wal.text_append [x] r
    have e2 : Wal.text [x] = textOf (Wal.frame (nums x)) := by
      unfold Wal.text
      rw [List.map_cons, List.map_nil, Wal.frames_cons, Wal.frames_nil, List.append_nil]
    have h1 := Wal.frame_long (nums x)
    rw [nums_length] at h1
    rw [e, e2, ByteArray.size_append, textOf_size]
    have : total (x :: r) = x.size + total r := by simp [total]
    rw [this, List.length_cons]
    omega

def SmallEnd (l : List ByteArray) (w : World) (e : Ending) (w' : World) : Prop := ∃ b : Bool, e = .returned (.bool b) ∧ w = w' ∧ RowKit.Hid (b = true → small l)
set_option maxHeartbeats 1000000 in
theorem small_at (w : World) (ao : Option Addr) (cap : Nat) (l : List ByteArray) (hl : TextsIn w ao l) :
    Calls Try.prog 16 #[.slice ao l.length cap] w (SmallEnd l w) := by
  have hfew := hl.few
  go_enter Try.func16, Try.ntmps16
  go_wp2_with fail
  go_loop [3, 8] (fun v3 i => ∃ (k : Nat) (x : Int), k ≤ l.length ∧ i = .int .i64 k ∧ v3 = .int .i64 x ∧ RowKit.Hid (k ≤ 200 → x = total (l.take k))) (fun _ i => l.length - (intOf i).toNat)
  case atStart => exact ⟨0, 0, by omega, rfl, rfl, Lib.hid (fun _ => rfl)⟩
  case round =>
    obtain ⟨k, x, hk, rfl, rfl, HS⟩ := hrel
    by_cases hlt : k < l.length
    · obtain ⟨b, off, rfl, hcell⟩ := hl.row.at hlt
      have hts := Wal.take_snoc hlt
      have hsm := hl.small k hlt
      have hb := total_bound hl.small k
      have htx : total (l.take (k + 1)) = total (l.take k) + (l.getD k ByteArray.empty).size := by rw [hts, total_snoc]
      have HT := Lib.hid htx
      have HB := Lib.hid hb
      clear htx hts hb
      generalize l.getD k ByteArray.empty = s at hcell hsm HT
      go_wp2_with fail
      go_round
      case rel =>
        refine ⟨k + 1, _, by omega, by go_num, rfl, Lib.hid ?_⟩
        intro h200
        have h1 := HS.out (by omega)
        have h2 := HB.out
        have h3 := HT.out
        have h4 : k * 140737488351232 ≤ 200 * 140737488351232 := Nat.mul_le_mul_right _ (by omega)
        rw [h3, h1]
        have h5 : total (l.take k) ≤ 28147497670246400 := by omega
        generalize total (l.take k) = tt at h5
        first
          | (unfold wrap64; omega)
          | (rw [IntKind.wrap_i64]; omega)
          | omega
      case measure => simp [intOf]; omega
    · obtain rfl : k = l.length := by omega
      have hst := HS.out
      rw [List.take_length] at hst
      by_cases h200 : l.length ≤ 200
      · have hx := hst h200
        subst hx
        by_cases ht : total l ≤ 20000
        · go_wp2_with fail
          go_ret
          exact ⟨_, rfl, rfl, Lib.hid (fun _ => ⟨ht, h200⟩)⟩
        · go_wp2_with fail
          go_ret
          exact ⟨_, rfl, rfl, Lib.hid (fun h => by simp at h)⟩
      · clear hst
        by_cases hx : x ≤ 20000
        · go_wp2_with fail
          go_ret
          exact ⟨_, rfl, rfl, Lib.hid (fun h => by simp at h; omega)⟩
        · go_wp2_with fail
          go_ret
          exact ⟨_, rfl, rfl, Lib.hid (fun h => by simp at h)⟩

end Go.Proofs.Ytfmpmdkedpollaa
