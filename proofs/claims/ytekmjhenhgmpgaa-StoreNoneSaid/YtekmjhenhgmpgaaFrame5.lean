/- The program's wal.Frame: what it makes is what the plain lists say. -/
import Derived.Test.YtekmjhenhgmpgaaWal
import Derived.Test.YtekmjhenhgmpgaaConv
import Derived.Test.YtekmjhenhgmpgaaDecode
namespace Go.Proofs.Ytekmjhenhgmpgaa
open Go.RowKit

theorem four_cells (w : World) (x : Int) (t : TypeId) (n : Nat) (hn : n = w.heap.size) : ∀ j u, ((Wal.be4 x).map (Value.int .u8))[j]? = some u →
    (w.alloc (.cells #[.int .u8 (x / 16777216), .int .u8 (x / 65536 % 256), .int .u8 (x / 256 % 256), .int .u8 (x % 256)] t)).cell? ((⟨n, 0, none⟩ : Addr).add j) = some u := by
  subst hn
  intro j u h
  rw [Addr.add_lit, Nat.zero_add, (Blk.made w _ _).cell j, ← h, ← List.getElem?_toArray]
  rfl

set_option maxHeartbeats 1000000 in
theorem frame_at (w : World) (s : ByteArray) (hs : s.size ≤ 1000000000) :
    Calls Try.prog 75 #[.string s] w fun e w' => e = .returned (.string (textOf (Wal.frame (nums s)))) ∧ Only NoBlock w w' := by
  have hl : (nums s).length ≤ 1000000000 := by rw [nums_length]; exact hs
  have hr := Wal.raw_length (nums s)
  have HR := Lib.hid hr
  have hr' : (Wal.raw (nums s)).length ≤ 1000000004 := by omega
  have hel := Stuff.enc_long (Wal.raw (nums s))
  clear hr
  have hx := Wal.crc_U (nums s)
  have hbe := Wal.be4_byte hx
  obtain ⟨hx0, hx1⟩ := hx
  go_enter Try.func75, Try.ntmps75
  go_wp2_with (first
    | (refine wpList_conv_bytes _ rfl _ _ rfl Cv.u_string Cv.u_byte s rfl (by unfold maxLen; omega) ?_; intro g1 cap1 w1 hc1 hg1 ho1))
  refine (crc_sum_at w1 _ _ (nums s) hc1.read).mono ?_
  rintro e w2 ⟨rfl, rfl⟩
  go_wp2_with (first
    | (refine wpList_conv_bytes _ rfl _ _ rfl Cv.u_string Cv.u_byte s rfl (by unfold maxLen; omega) ?_; intro g2 cap2 w2 hc2 hg2 ho2)
    | (at_builtin; refine wpList_append_conv _ rfl _ _ rfl g2 cap2 _ (nums s) rfl rfl (hc2.keeps ((Only.refl NoBlock _).alloc _) (fun h => h)) ⟨w2.heap.size, 0, none⟩ 4 4 (Wal.be4 (Crc.add 0 (nums s))) rfl rfl (four_cells _ _ _ _ rfl) hbe (by omega) (Wal.raw (nums s)) rfl ?_; intro ao cap3 w3 hb3 ho3 hc3 hcm3))
  refine (encode_at w3 _ _ (Wal.raw (nums s)) hb3 (by omega)).mono ?_
  rintro e w4 ⟨v, rfl, hb4, ho4⟩
  go_wp2_with (first
    | (at_builtin; refine wpList_append_byte _ rfl _ _ rfl w3.heap.size v (Stuff.enc (Wal.raw (nums s))) 0 ⟨w4.heap.size, 0, none⟩ 1 rfl (hb4.keeps ((Only.refl NoBlock _).alloc _) (fun _ _ h => h)) rfl (cell_byte _ _ _ _ rfl) (by omega) (by have := ho4.size; simp; omega) ?_; intro v' w5 hb5 hg5; obtain ⟨g5, cap5, rfl, _, _, _⟩ := Bts.shape hb5 (by simp))
    | (refine wpList_conv_text _ rfl _ _ rfl Cv.u_string Cv.u_byte _ _ _ (Wal.frame (nums s)) rfl rfl (Bts.read hb5 (Wal.frame_byte (nums_byte s))) ?_))
  go_ret
  have h3 : Only NoBlock w w3 := ((ho1.trans ho2).alloc _).andThen ho3 (fun i hi e => by have := ho1.size; omega)
  exact ⟨rfl, ((h3.trans ho4).alloc _).appended (hb4.keeps ((Only.refl NoBlock _).alloc _) (fun _ _ h => h)) h3.size hg5⟩
end Go.Proofs.Ytekmjhenhgmpgaa
