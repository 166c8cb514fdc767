/- Writing numbers and texts: what the program's writer makes is what the plain lists say. -/
import Derived.Test.YtogeeeigfhmpmaaPackM
import Derived.Deep.RegionLaw
import Derived.Maps.AppendAt
import Derived.Lib.AppendStr
import Derived.Test.YtogeeeigfhmpmaaStrs
namespace Go.Proofs.Ytogeeeigfhmpmaa
open Go.RowKit
set_option maxRecDepth 100000

/-- block p is a writer that has laid l, in a row of the call's own -/
def WriterAt (w : World) (base p : Nat) (l : List Int) : Prop := base ≤ p ∧ ∃ v, Blk w p #[v] 102 ∧ Bts w base v l

theorem Bts.apart {w : World} {base p : Nat} {v : Value} {l : List Int} {cs : Array Value} {t : TypeId} (h : Bts w base v l) (hb : Blk w p cs t) (ht : t ≠ 5) : v.ownBlock ≠ some p := by
  rcases h.2 with ⟨rfl, h0⟩ | ⟨g, cap, cur, rfl, _, hg, _⟩
  · simp [Value.ownBlock]
  · intro e
    have e' : g = p := by simpa [Value.ownBlock] using e
    subst e'
    unfold Blk at hb
    rw [hb] at hg
    cases hg
    exact ht rfl

section
variable {ops : Array Oper} {o : Oper} {a : Act} {K : Act → World → Prop} {Q : Exit → Act → World → Prop} {E : Prop}
/-- 'append' of a byte, as one step of a region that draws -/
theorem step_append_byte (w : World) (hgd : o.guard = none) (s x : Operand) (ho : o.op = .call { callee := .builtin .append, args := #[s, x], argTypes := #[100, 100] })
    (base : Nat) (v : Value) (l : List Int) (c : Int) (ad : Addr) (n : Nat) (hs : a.eval s = v) (hown : Bts w base v l) (hx : a.eval x = .slice (some ad) 1 n) (hc : w.cell? ad = some (.int .u8 c))
    (hlen : l.length + 1 ≤ 140737488355328) (hbase : base ≤ w.heap.size)
    (h : ∀ v' w', Bts w' base v' (l ++ [c]) → w.grownBy w' v.ownBlock → K (a.put o.dst v') w') : if Region.wanted o (yielded ops a.tmps) = true then Oper.wp Try.prog o a w K Q else E := by
  have hw : Region.wanted o (yielded ops a.tmps) = true := by simp [Region.wanted, hgd]
  rw [if_pos hw]
  obtain ⟨i, hi, hz, hsz, hby⟩ := info_parts By.info
  unfold Oper.wp execOp
  simp only [ho, resolve, invoke, builtin, Sem.run_bind, Sem.run_pure, Result.andThen_ok, List.map_toArray, List.map_cons, List.map_nil, hs, hx]
  obtain ⟨v', w', hr, h2, h3, _, h5⟩ := run_append_own_at (P := Try.prog) w base 100 o.type 5 i (.int .u8 0) 1 1 By.u_bytes hi hz hsz hby rfl (by decide) v l.length _ hown ad 1 n [.int .u8 c] (by simp) (by
    intro j u hj
    cases j with
    | zero =>
      cases hj
      have : ad.add 0 = ad := by unfold Addr.add; obtain ⟨b, off, sp⟩ := ad; cases sp <;> rfl
      rw [this]; exact hc
    | succ j => cases hj) (by simp [Value.oneCell']) (by unfold maxLen; omega) (by omega) hbase
  rw [hr]
  refine h v' w' ?_ h3
  unfold Bts
  simpa using h2
end

theorem cell_byte_drew (w : World) (c : Int) (t : TypeId) (n : Nat) (hn : n = w.heap.size) : (w.alloc (.cells #[.int .u8 c] t)).drew.cell? ⟨n, 0, none⟩ = some (.int .u8 c) := cell_byte w c t n hn
theorem shr_byte (x i : Nat) : IntKind.u8.wrap ((x : Int) / 2 ^ (8 * (i : Int)).toNat) = ((x / 256 ^ i % 256 : Nat) : Int) := by
  have e : (8 * (i : Int)).toNat = 8 * i := by omega
  have e2 : (256 : Nat) ^ i = 2 ^ (8 * i) := by rw [Nat.pow_mul]
  rw [e, e2]
  show ((x : Int) / 2 ^ (8 * i)) % 256 = _
  norm_cast
theorem WriterAt.put {w2 : World} {base p : Nat} {v v2 : Value} {m : List Int} (hbp : base ≤ p) (hp2 : Blk w2 p #[v] 102) (hb2 : Bts w2 base v2 m) : WriterAt (w2.setCell ⟨p, 0, none⟩ v2) base p m := by
  have hap := hb2.apart hp2 (by decide)
  refine ⟨hbp, v2, hp2.setCell 0 v2, Bts.keeps (S := fun k => k = p) hb2 ((Only.refl (fun k => k = p) w2).setCell (p := ⟨p, 0, none⟩) (fun _ => rfl) _) ?_⟩
  intro k hk e
  subst e
  exact hap hk
theorem writer_only2 {w w1 w2 : World} {base p : Nat} {v v2 : Value} {l : List Int} {o : Obj} (hbp : base ≤ p) (ho : Only (fun k => base ≤ k) w w1) (hown : Bts w1 base v l) (hg : (w1.alloc o).drew.grownBy w2 v.ownBlock) : Only (fun k => base ≤ k) w (w2.setCell ⟨p, 0, none⟩ v2) :=
  (((ho.alloc o).drew).grown hg (fun k hk _ => (World.ownsRow.lt hown k hk).1)).setCell (p := ⟨p, 0, none⟩) (fun _ => hbp) _
theorem writer_only {w w1 w2 : World} {base p : Nat} {v v2 : Value} {l : List Int} {o : Obj} (hbp : base ≤ p) (ho : Only (fun k => base ≤ k) w w1) (hown : Bts w1 base v l) (hg : (w1.alloc o).grownBy w2 v.ownBlock) : Only (fun k => base ≤ k) w (w2.setCell ⟨p, 0, none⟩ v2) :=
  ((ho.alloc o).grown hg (fun k hk _ => (World.ownsRow.lt hown k hk).1)).setCell (p := ⟨p, 0, none⟩) (fun _ => hbp) _

set_option maxHeartbeats 2000000 in
theorem wnum_at (w : World) (base p : Nat) (l : List Int) (h : WriterAt w base p l) (x : Nat) (hx : x < 18446744073709551616) (hlen : l.length ≤ 100000000000000) :
    Calls Try.prog 42 #[.pointer (some ⟨p, 0, none⟩), .int .u64 x] w fun e w' => e = .returned (.pointer (some ⟨p, 0, none⟩)) ∧ WriterAt w' base p (l ++ Pk.num x) ∧ Only (fun k => base ≤ k) w w' := by
  obtain ⟨hbp, v, hblk, hown⟩ := h
  have hpl := hblk.lt
  have hs8 := Pk.size_le8 hx
  go_enter Try.func42, Try.ntmps42
  go_wp2_with fail
  go_loop [5, 6] (fun v5 v6 => ∃ (k y : Nat), v5 = .int .i64 k ∧ v6 = .int .u64 y ∧ y < 18446744073709551616 ∧ k + Pk.size y = Pk.size x) (fun _ v6 => (intOf v6).toNat)
  case atStart => exact ⟨0, x, rfl, rfl, hx, by omega⟩
  case round =>
    obtain ⟨k, y, rfl, rfl, hy, hk⟩ := hrel
    by_cases h0 : 0 < y
    · have hsp := Pk.size_pos h0
      go_wp2_with fail
      have e : ((y : Int) / 256) = ((y / 256 : Nat) : Int) := by omega
      exact ⟨⟨k + 1, y / 256, by go_num, by rw [e], by omega, by omega⟩, by simp [intOf]; omega⟩
    · obtain rfl : y = 0 := by omega
      have hz := Pk.size_zero
      obtain ⟨K, hK⟩ : ∃ K, Pk.size x = K := ⟨_, rfl⟩
      have hkK : k = K := by omega
      subst hkK
      rw [hK] at hs8
      have HK := Lib.hid hK
      clear hK hk hz h0
      have hap := hown.apart hblk (by decide)
      have c0 := hblk.cell 0
      have f0 := hblk.free 0
      simp at c0
      have hapd : ∀ w2, w.grownBy w2 v.ownBlock → Blk w2 p #[v] 102 := fun w2 hg => (hg.block p hpl (fun e => hap e.symm)).trans hblk
      go_upto_region 9 with (first
        | (at_builtin; refine wpList_append_byte _ rfl _ _ rfl base _ l (k : Int) ⟨w.heap.size, 0, none⟩ 1 rfl (hown.keeps ((Only.refl NoBlock _).alloc _) (fun _ _ h => h)) rfl ?_ ?_ ?_ ?_; (exact cell_byte _ _ _ _ rfl); omega; (simp; omega); intro v2 w2 hb2 hg2; have hp2 : Blk w2 p #[v] 102 := (hg2.block p (by simp; omega) (fun e => hap e.symm)).trans (hblk.alloc _); have c2 := hp2.cell 0; have f2 := hp2.free 0; simp at c2; obtain ⟨g2, cap2, rfl, _, _, _⟩ := Bts.shape hb2 (by simp)))
      have hlk : (l ++ [(k : Int)]).length = l.length + 1 := by simp
      rw [hlk] at hb2
      have hW := WriterAt.put hbp hp2 hb2
      have hO : Only (fun k => base ≤ k) w (w2.setCell ⟨p, 0, none⟩ (.slice (some ⟨g2, 0, none⟩) (l.length + 1) cap2)) := writer_only hbp (Only.refl _ _) hown hg2
      generalize w2.setCell ⟨p, 0, none⟩ (.slice (some ⟨g2, 0, none⟩) (l.length + 1) cap2) = w3 at hW hO ⊢
      clear hb2 hp2 hg2 hapd hap hown hblk c0 f0 c2 f2
      go_wp2_with fail
      go_loopw [7] (fun v7 wr => ∃ j : Nat, j ≤ k ∧ v7 = .int .i64 ((k : Int) - 1 - j) ∧ WriterAt wr base p ((l ++ [(k : Int)]) ++ (Pk.be k x).take j) ∧ Only (fun k => base ≤ k) w wr) (fun v7 _ => (intOf v7 + 1).toNat)
      case atStart => exact ⟨0, by omega, by simp, by simpa using hW, hO⟩
      case round =>
        clear hW hO
        obtain ⟨j, hj, rfl, hW, hO⟩ := hrel
        by_cases hlt : j < k
        · obtain ⟨-, v, hblk, hown⟩ := hW
          have htk := Pk.be_take (x := x) hlt
          have HT := Lib.hid htk
          clear htk
          obtain ⟨m, hm⟩ : ∃ m, (l ++ [(k : Int)]) ++ (Pk.be k x).take j = m := ⟨_, rfl⟩
          have htl : m.length ≤ 100000000000009 := by
            rw [← hm, List.length_append, List.length_append, List.length_take]; simp; omega
          rw [hm] at hown
          have HM : RowKit.Hid ((l ++ [(k : Int)]) ++ (Pk.be k x).take (j + 1) = m ++ [((x / 256 ^ (k - 1 - j) % 256 : Nat) : Int)]) := Lib.hid (by rw [HT.out, ← hm, List.append_assoc, List.append_assoc, List.append_assoc])
          clear hm HT
          obtain ⟨i, hi⟩ : ∃ i, k = i + 1 + j := ⟨k - 1 - j, by omega⟩
          have hij : k - 1 - j = i := by omega
          rw [hij] at HM
          have hap := hown.apart hblk (by decide)
          have c0 := hblk.cell 0
          have f0 := hblk.free 0
          simp at c0
          have hpl2 := hblk.lt
          have hv7 : (k : Int) - 1 - j = (i : Int) := by omega
          rw [hv7]
          clear hv7
          have hi8 : i ≤ 7 := by omega
          have hw8 : IntKind.i64.wrap (8 * (i : Int)) = 8 * (i : Int) := IntWalk.i64_in _ (by omega)
          have hi0 : (0 : Int) ≤ 8 * (i : Int) := by omega
          have hsb := shr_byte x i
          have HI := Lib.hid hi
          clear hi hij hlt hj
          go_upto_region 12 with fail
          go_region_law (refine step_append_byte _ rfl _ _ rfl base _ _ ((x / 256 ^ i % 256 : Nat) : Int) ⟨wr.heap.size, 0, none⟩ 1 rfl (hown.keeps (((Only.refl NoBlock _).alloc _).drew) (fun _ _ h => h)) rfl ?_ ?_ ?_ ?_; (exact cell_byte_drew _ _ _ _ rfl); omega; (simp; omega); intro v2 w2 hb2 hg2; have hp2 : Blk w2 p #[v] 102 := (hg2.block p (by simp; omega) (fun e => hap e.symm)).trans (hblk.alloc _); have c2 := hp2.cell 0; have f2 := hp2.free 0; simp at c2; obtain ⟨g2, cap2, rfl, _, _, _⟩ := Bts.shape hb2 (by simp))
          all_goals
            have hlk : (m ++ [((x / 256 ^ i % 256 : Nat) : Int)]).length = m.length + 1 := by simp
            rw [hlk] at hb2
            have hW := WriterAt.put hbp hp2 hb2
            have hO2 : Only (fun k => base ≤ k) w (w2.setCell ⟨p, 0, none⟩ (.slice (some ⟨g2, 0, none⟩) (m.length + 1) cap2)) := writer_only2 hbp hO hown hg2
            generalize w2.setCell ⟨p, 0, none⟩ (.slice (some ⟨g2, 0, none⟩) (m.length + 1) cap2) = w3 at hW hO2 ⊢
            clear hb2 hp2 hg2 c2 f2 hsb hi0 hw8
            go_wp2_with fail
            go_roundw
            case rel => exact ⟨j + 1, by have := HI.out; omega, by congr 1; have := HI.out; omega, by rw [HM.out]; exact hW, hO2⟩
            case measure => simp [intOf]
        · obtain rfl : j = k := by omega
          rw [List.take_of_length_le (by rw [Pk.be_length]; omega)] at hW
          have hn : l ++ Pk.num x = (l ++ [(j : Int)]) ++ Pk.be j x := by unfold Pk.num; rw [HK.out]; simp
          have HN := Lib.hid hn
          clear hn
          go_wp2_with fail
          go_ret
          exact ⟨rfl, by rw [HN.out]; exact hW, hO⟩


theorem strCells_nums (s : ByteArray) : Lib.strCells s = (nums s).map (Value.int .u8) := by
  unfold Lib.strCells nums
  rw [List.map_map]
  rfl
section
variable {ops : Array Oper} {rest : List Oper} {o : Oper} {a : Act} {Q : Exit → Act → World → Prop}
/-- 'append' of a text's bytes -/
theorem wpList_append_text (w : World) (hgd : o.guard = none) (s x : Operand) (ho : o.op = .call { callee := .builtin .append, args := #[s, x], argTypes := #[100, 9] })
    (base : Nat) (v : Value) (l : List Int) (t : ByteArray) (hs : a.eval s = v) (hown : Bts w base v l) (hx : a.eval x = .string t)
    (hlen : l.length + t.size ≤ 140737488355328) (hbase : base ≤ w.heap.size)
    (h : ∀ v' w', Bts w' base v' (l ++ nums t) → w.grownBy w' v.ownBlock → wpList Try.prog ops Q rest (a.put o.dst v') w') : wpList Try.prog ops Q (o :: rest) a w := by
  obtain ⟨i, hi, hz, hsz, hby⟩ := info_parts By.info
  refine wpList_plain hgd fun K hK => ?_
  unfold Oper.wp execOp
  simp only [ho, resolve, invoke, builtin, Sem.run_bind, Sem.run_pure, Result.andThen_ok, List.map_toArray, List.map_cons, List.map_nil, hs, hx]
  obtain ⟨v', w', hr, h2, h3, _⟩ := Lib.run_append_own_string (P := Try.prog) w base 100 9 o.type 5 i By.u_bytes Cv.u_string hi hz hsz hby v l.length _ hown t (by unfold maxLen; omega) (by omega) hbase
  rw [hr]
  refine hK _ _ (h v' w' ?_ h3)
  unfold Bts
  rw [strCells_nums, ← nums_length, ← List.map_append, ← List.length_append] at h2
  exact h2
end

set_option maxHeartbeats 2000000 in
theorem wtext_at (w : World) (base p : Nat) (l : List Int) (h : WriterAt w base p l) (t : ByteArray) (ht : t.size ≤ 1000000000000) (hlen : l.length ≤ 10000000000000) :
    Calls Try.prog 99 #[.pointer (some ⟨p, 0, none⟩), .string t] w fun e w' => e = .returned (.pointer (some ⟨p, 0, none⟩)) ∧ WriterAt w' base p (l ++ Pk.text (nums t)) ∧ Only (fun k => base ≤ k) w w' := by
  have hn : l ++ Pk.text (nums t) = (l ++ Pk.num t.size) ++ nums t := by unfold Pk.text; rw [nums_length, List.append_assoc]
  have HN := Lib.hid hn
  have h8 := Pk.size_le8 (x := t.size) (by omega)
  have hnl := Pk.num_length t.size
  clear hn
  go_enter Try.func99, Try.ntmps99
  go_wp2_with fail
  refine (wnum_at w base p l h t.size (by omega) (by omega)).mono ?_
  rintro e w1 ⟨rfl, hW, hO⟩
  have hml : (l ++ Pk.num t.size).length ≤ 10000000000009 := by rw [List.length_append]; omega
  have hmp : 0 < (l ++ Pk.num t.size).length := by rw [List.length_append]; omega
  generalize l ++ Pk.num t.size = m at hW HN hml hmp
  obtain ⟨hbp, v, hblk, hown⟩ := hW
  have hap := hown.apart hblk (by decide)
  have c0 := hblk.cell 0
  have f0 := hblk.free 0
  simp at c0
  have hpl := hblk.lt
  obtain ⟨g, cap, rfl, _, _, _⟩ := Bts.shape hown hmp
  go_wp2_with (first
    | (at_builtin; refine wpList_append_text _ rfl _ _ rfl base _ m t rfl hown rfl (by omega) (by omega) ?_; intro v2 w2 hb2 hg2; have hp2 : Blk w2 p #[_] 102 := (hg2.block p hpl (fun e => hap e.symm)).trans hblk; have c2 := hp2.cell 0; have f2 := hp2.free 0; simp at c2; obtain ⟨g2, cap2, rfl, _, _, _⟩ := Bts.shape hb2 (by rw [List.length_append]; omega)))
  go_ret
  have hll : (m ++ nums t).length = m.length + (nums t).length := List.length_append
  rw [hll] at hb2
  refine ⟨rfl, by rw [HN.out]; exact WriterAt.put hbp hp2 hb2, ?_⟩
  exact (hO.grown hg2 (fun k hk _ => (World.ownsRow.lt hown k hk).1)).setCell (p := ⟨p, 0, none⟩) (fun _ => hbp) _

theorem wbytes_at (w : World) (base p : Nat) (l : List Int) (h : WriterAt w base p l) (hw : ∀ c ∈ l, 0 ≤ c ∧ c ≤ 255) :
    Calls Try.prog 44 #[.pointer (some ⟨p, 0, none⟩)] w fun e w' => e = .returned (.string (textOf l)) ∧ w = w' := by
  obtain ⟨hbp, v, hblk, hown⟩ := h
  have c0 := hblk.cell 0
  simp at c0
  obtain ⟨ao, cap, rfl⟩ := Bts.shape' hown
  have hbi := hown.read hw
  go_enter Try.func44, Try.ntmps44
  go_wp2_with (first
    | (refine wpList_conv_text _ rfl _ _ rfl Cv.u_string Cv.u_byte ao _ cap l ?_ rfl hbi ?_; (rfl)))
  go_ret
  exact ⟨rfl, rfl⟩

/-! ### reading -/
namespace Pk
theorem ba_list {x y : ByteArray} (h : x ≠ y) : x.toList ≠ y.toList := by
  rw [ByteArray.toList_eq, ByteArray.toList_eq]
  obtain ⟨⟨a⟩⟩ := x
  obtain ⟨⟨b⟩⟩ := y
  intro e
  exact h (by cases e; rfl)
end Pk
theorem textOf_extract {l : List Int} (h : ∀ c ∈ l, 0 ≤ c ∧ c ≤ 255) (a b : Nat) : (textOf l).extract a b = textOf ((l.drop a).take (b - a)) := by
  apply nums_inj
  rw [nums_extract, nums_textOf h, nums_textOf (fun c hc => h c (List.mem_of_mem_drop (List.mem_of_mem_take hc)))]
theorem textOf_get {l : List Int} (h : ∀ c ∈ l, 0 ≤ c ∧ c ≤ 255) {i : Nat} (hi : i < (textOf l).size) : (((textOf l)[i]'hi).toNat : Int) = l.getD i 0 := by
  rw [← nums_get _ i hi, nums_textOf h]
theorem textOf_nil : textOf [] = ⟨#[]⟩ := rfl

/-- block p is a reader -/
def ReaderAt (w : World) (p : Nat) (r : Pk.RD) : Prop := Blk w p #[.string (textOf r.s), .bool r.bad] 141 ∧ (∀ c ∈ r.s, 0 ≤ c ∧ c ≤ 255) ∧ r.s.length ≤ 1000000000000

theorem rfail_at (w : World) (p : Nat) (s : ByteArray) (b : Bool) (h : Blk w p #[.string s, .bool b] 141) :
    Calls Try.prog 74 #[.pointer (some ⟨p, 0, none⟩)] w fun e w' => e = .returned (.int .u64 0) ∧ ReaderAt w' p ⟨[], true⟩ ∧ Only (fun k => k = p) w w' := by
  have c0 := h.cell 0
  have c1 := h.cell 1
  have f0 := h.free 0
  have f1 := h.free 1
  simp at c0 c1
  go_enter Try.func74, Try.ntmps74
  go_wp2_with fail
  go_ret
  refine ⟨rfl, ⟨?_, by simp, by simp⟩, ?_⟩
  · exact (h.setCell 0 _).setCell 1 _
  · exact ((Only.refl (fun k => k = p) w).setCell (p := ⟨p, 0, none⟩) (fun _ => rfl) _).setCell (p := ⟨p, 1, none⟩) (fun _ => rfl) _


namespace Pk
theorem numV_no {s : List Int} (h : okNum s = false) : numV s = 0 := by unfold numV; rw [h]; rfl
theorem numR_no {r : RD} (h : okNum r.s = false) : numR r = ⟨[], true⟩ := by unfold numR; rw [h]; rfl
end Pk

theorem Pk.or_nat {x y : Nat} (hx : x < 2 ^ 64) (hy : y < 2 ^ 64) : bits .or .u64 (x : Int) (y : Int) = ((x ||| y : Nat) : Int) := by
  unfold bits
  simp only [IntKind.wrap_u64]
  show ((BitVec.ofInt 64 (x : Int) ||| BitVec.ofInt 64 (y : Int)).toNat : Int) % 18446744073709551616 = _
  rw [BitVec.toNat_or, BitVec.ofInt_natCast, BitVec.ofInt_natCast, BitVec.toNat_ofNat, BitVec.toNat_ofNat, Nat.mod_eq_of_lt hx, Nat.mod_eq_of_lt hy]
  have := Nat.or_lt_two_pow (n := 64) hx hy
  omega
theorem Pk.or_byte {x : Nat} {c : Int} (hx : x < 72057594037927936) (h0 : 0 ≤ c) (h1 : c ≤ 255) : bits .or .u64 ((x : Int) * 256) c = ((256 * x + c.toNat : Nat) : Int) := by
  obtain ⟨k, rfl⟩ := Int.eq_ofNat_of_zero_le h0
  have e : ((x : Int) * 256) = ((x * 256 : Nat) : Int) := by omega
  rw [e, Pk.or_nat (by omega) (by omega)]
  have h := Nat.shiftLeft_add_eq_or_of_lt (b := k) (i := 8) (by omega) x
  rw [Nat.shiftLeft_eq] at h
  have e2 : x * 2 ^ 8 = x * 256 := rfl
  rw [e2] at h
  rw [← h]
  have : (k : Int).toNat = k := by omega
  rw [this]
  omega

set_option maxHeartbeats 2000000 in
theorem rnum_at (w : World) (p : Nat) (r : Pk.RD) (h : ReaderAt w p r) :
    Calls Try.prog 49 #[.pointer (some ⟨p, 0, none⟩)] w fun e w' => e = .returned (.int .u64 (Pk.numV r.s : Nat)) ∧ ReaderAt w' p (Pk.numR r) ∧ Only (fun k => k = p) w w' := by
  obtain ⟨hb, hw, hl⟩ := h
  obtain ⟨s, bad⟩ := r
  simp only at hb hw hl ⊢
  have c0 := hb.cell 0
  have c1 := hb.cell 1
  have f0 := hb.free 0
  simp at c0 c1
  cases s with
  | nil =>
    have HV := Lib.hid (Pk.numV_no (s := []) rfl)
    have HR := Lib.hid (Pk.numR_no (r := ⟨[], bad⟩) rfl)
    rw [textOf_nil] at c0 hb
    go_enter Try.func49, Try.ntmps49
    go_wp2_with fail
    refine (rfail_at w p _ _ hb).mono ?_
    rintro e w1 ⟨rfl, hR, hO⟩
    go_wp2_with fail
    go_ret
    exact ⟨by rw [HV.out]; rfl, by rw [HR.out]; exact hR, hO⟩
  | cons n t =>
    have hsz : (textOf (n :: t)).size = t.length + 1 := by rw [textOf_size]; rfl
    have hg0 := textOf_get hw (i := 0) (by omega)
    rw [List.getD_cons_zero] at hg0
    obtain ⟨hn0, hn1⟩ := hw n (by simp)
    have hl1 : t.length ≤ 1000000000000 := by rw [List.length_cons] at hl; omega
    have hwt : wrap64 (t.length : Int) = (t.length : Int) := by unfold wrap64; omega
    have hne : ((textOf (n :: t)).toList == []) = false := by
      have : (textOf (n :: t)).toList ≠ (⟨#[]⟩ : ByteArray).toList := Pk.ba_list (by intro e; have := congrArg ByteArray.size e; have h0 : (⟨#[]⟩ : ByteArray).size = 0 := rfl; omega)
      simpa using this
    go_enter Try.func49, Try.ntmps49
    go_upto_region 4 with fail
    clear hg0 hne
    by_cases h8 : 8 < n
    · have hno : Pk.okNum (n :: t) = false := by unfold Pk.okNum; simp [h8]
      have hd8 : decide ((8 : Int) < n) = true := by simpa using h8
      clear h8
      have HV := Lib.hid (Pk.numV_no hno)
      have HR := Lib.hid (Pk.numR_no (r := ⟨n :: t, bad⟩) hno)
      clear hno
      go_wp2_with fail
      refine (rfail_at w p _ _ hb).mono ?_
      rintro e w1 ⟨rfl, hR, hO⟩
      go_wp2_with fail
      go_ret
      exact ⟨by rw [HV.out]; rfl, by rw [HR.out]; exact hR, hO⟩
    have hd8 : decide ((8 : Int) < n) = false := by simpa using h8
    by_cases hlt : (t.length : Int) < n
    · have hno : Pk.okNum (n :: t) = false := by unfold Pk.okNum; simp [hlt]
      have hd9 : decide ((t.length : Int) < n) = true := by simpa using hlt
      clear hlt h8
      have HV := Lib.hid (Pk.numV_no hno)
      have HR := Lib.hid (Pk.numR_no (r := ⟨n :: t, bad⟩) hno)
      clear hno
      go_wp2_with fail
      refine (rfail_at w p _ _ hb).mono ?_
      rintro e w1 ⟨rfl, hR, hO⟩
      go_wp2_with fail
      go_ret
      exact ⟨by rw [HV.out]; rfl, by rw [HR.out]; exact hR, hO⟩
    have hd9 : decide ((t.length : Int) < n) = false := by simpa using hlt
    obtain ⟨m, rfl⟩ : ∃ m : Nat, n = (m : Int) := ⟨n.toNat, by omega⟩
    have hm8 : m ≤ 8 := by omega
    have hmt : m ≤ t.length := by omega
    clear h8 hlt
    by_cases hz : 0 < m ∧ t.getD 0 0 = 0
    · have hno : Pk.okNum ((m : Int) :: t) = false := by
        unfold Pk.okNum
        have h1 := hz.1
        have h2 := hz.2
        simp only [Bool.not_eq_false', Bool.or_eq_true, Bool.and_eq_true, decide_eq_true_eq]
        exact .inr ⟨by omega, h2⟩
      have hs1 : 1 < (textOf ((m : Int) :: t)).size := by omega
      have hg1 := textOf_get hw hs1
      rw [List.getD_cons_succ, hz.2] at hg1
      have hm0 := hz.1
      have hd0 : decide ((0 : Int) < (m : Int)) = true := by simpa using hm0
      clear hz
      have HV := Lib.hid (Pk.numV_no hno)
      have HR := Lib.hid (Pk.numR_no (r := ⟨(m : Int) :: t, bad⟩) hno)
      clear hno
      go_wp2_with fail
      refine (rfail_at w p _ _ hb).mono ?_
      rintro e w1 ⟨rfl, hR, hO⟩
      go_wp2_with fail
      go_ret
      exact ⟨by rw [HV.out]; rfl, by rw [HR.out]; exact hR, hO⟩
    have hok : Pk.okNum ((m : Int) :: t) = true := by
      unfold Pk.okNum
      simp only [Bool.not_eq_true', Bool.or_eq_false_iff, Bool.and_eq_false_iff, decide_eq_false_iff_not]
      refine ⟨⟨by omega, by omega⟩, ?_⟩
      by_cases h : 0 < m
      · exact .inr (fun e => hz ⟨h, e⟩)
      · exact .inl (by omega)
    have hV : Pk.numV ((m : Int) :: t) = Pk.val (t.take m) := by unfold Pk.numV; rw [if_pos hok]; rfl
    have hR : Pk.numR ⟨(m : Int) :: t, bad⟩ = ⟨t.drop m, bad⟩ := by unfold Pk.numR; simp only; rw [if_pos hok]; rfl
    have HV := Lib.hid hV
    have HR := Lib.hid hR
    clear hok hV hR
    by_cases hm0 : 0 < m
    · have hs1 : 1 < (textOf ((m : Int) :: t)).size := by omega
      have hg1 := textOf_get hw hs1
      rw [List.getD_cons_succ] at hg1
      have hzz : (t.getD 0 0 == 0) = false := by
        have : t.getD 0 0 ≠ 0 := fun e => hz ⟨hm0, e⟩
        simpa using this
      generalize t.getD 0 0 = c at hg1 hzz
      have hd0 : decide ((0 : Int) < (m : Int)) = true := by simpa using hm0
      go_upto_region 8 with fail
      clear hg1 hzz hz hm0 hd0 hd8 hd9
      go_loop [4, 5] (fun v4 v5 => ∃ j : Nat, j ≤ m ∧ v5 = .int .i64 ((j : Int) + 1) ∧ v4 = .int .u64 (Pk.val (t.take j) : Nat)) (fun _ v5 => m + 1 - (intOf v5).toNat)
      case atStart => exact ⟨0, by omega, rfl, rfl⟩
      case round =>
        obtain ⟨j, hj, rfl, rfl⟩ := hrel
        by_cases hjm : j < m
        · have hjs : j + 1 < (textOf ((m : Int) :: t)).size := by omega
          have hgj := textOf_get hw hjs
          rw [List.getD_cons_succ] at hgj
          have htk : Pk.val (t.take (j + 1)) = 256 * Pk.val (t.take j) + (t.getD j 0).toNat := by
            rw [List.take_add_one, List.getElem?_eq_getElem (by omega), List.getD_eq_getElem?_getD, List.getElem?_eq_getElem (by omega)]
            exact Pk.val_snoc _ _
          have hcb := hw (t.getD j 0) (by
            rw [List.getD_eq_getElem?_getD, List.getElem?_eq_getElem (by omega)]
            exact List.mem_cons_of_mem _ (List.getElem_mem _))
          have hvl := Pk.val_lt (t.take j) (fun c hc => hw c (List.mem_cons_of_mem _ (List.mem_of_mem_take hc)))
          have hvb : Pk.val (t.take j) < 72057594037927936 := by
            refine Nat.lt_of_lt_of_le hvl ?_
            have : (t.take j).length ≤ 7 := by rw [List.length_take]; omega
            exact Nat.le_trans (Nat.pow_le_pow_right (by decide) this) (by decide)
          have HT := Lib.hid htk
          clear htk hvl
          generalize t.getD j 0 = c at hgj hcb HT
          generalize Pk.val (t.take j) = x at hvb HT ⊢
          obtain ⟨hc0, hc1⟩ := hcb
          go_wp2_with fail
          exact ⟨⟨j + 1, by omega, by congr 1, by rw [Pk.or_byte hvb hc0 hc1, HT.out]⟩, by simp [intOf]; omega⟩
        · obtain rfl : j = m := by omega
          have hdl : (t.drop j).length = t.length - j := List.length_drop
          have hex : (textOf ((j : Int) :: t)).extract (j + 1) (t.length + 1) = textOf (t.drop j) := by
            rw [textOf_extract hw, List.drop_succ_cons, List.take_of_length_le (by omega)]
          have HEX := Lib.hid hex
          clear hex hdl
          go_wp2_with fail
          rw [HEX.out]
          go_ret
          refine ⟨by rw [HV.out]; rfl, by rw [HR.out]; exact ⟨hb.setCell 0 _, fun c hc => hw c (List.mem_cons_of_mem _ (List.mem_of_mem_drop hc)), by simp only [List.length_drop]; omega⟩, (Only.refl (fun k => k = p) w).setCell (p := ⟨p, 0, none⟩) (fun _ => rfl) _⟩
    · have hd0 : decide ((0 : Int) < (m : Int)) = false := by simp; omega
      go_upto_region 8 with fail
      clear hz hm0 hd0 hd8 hd9
      go_loop [4, 5] (fun v4 v5 => ∃ j : Nat, j ≤ m ∧ v5 = .int .i64 ((j : Int) + 1) ∧ v4 = .int .u64 (Pk.val (t.take j) : Nat)) (fun _ v5 => m + 1 - (intOf v5).toNat)
      case atStart => exact ⟨0, by omega, rfl, rfl⟩
      case round =>
        obtain ⟨j, hj, rfl, rfl⟩ := hrel
        by_cases hjm : j < m
        · have hjs : j + 1 < (textOf ((m : Int) :: t)).size := by omega
          have hgj := textOf_get hw hjs
          rw [List.getD_cons_succ] at hgj
          have htk : Pk.val (t.take (j + 1)) = 256 * Pk.val (t.take j) + (t.getD j 0).toNat := by
            rw [List.take_add_one, List.getElem?_eq_getElem (by omega), List.getD_eq_getElem?_getD, List.getElem?_eq_getElem (by omega)]
            exact Pk.val_snoc _ _
          have hcb := hw (t.getD j 0) (by
            rw [List.getD_eq_getElem?_getD, List.getElem?_eq_getElem (by omega)]
            exact List.mem_cons_of_mem _ (List.getElem_mem _))
          have hvl := Pk.val_lt (t.take j) (fun c hc => hw c (List.mem_cons_of_mem _ (List.mem_of_mem_take hc)))
          have hvb : Pk.val (t.take j) < 72057594037927936 := by
            refine Nat.lt_of_lt_of_le hvl ?_
            have : (t.take j).length ≤ 7 := by rw [List.length_take]; omega
            exact Nat.le_trans (Nat.pow_le_pow_right (by decide) this) (by decide)
          have HT := Lib.hid htk
          clear htk hvl
          generalize t.getD j 0 = c at hgj hcb HT
          generalize Pk.val (t.take j) = x at hvb HT ⊢
          obtain ⟨hc0, hc1⟩ := hcb
          go_wp2_with fail
          exact ⟨⟨j + 1, by omega, by congr 1, by rw [Pk.or_byte hvb hc0 hc1, HT.out]⟩, by simp [intOf]; omega⟩
        · obtain rfl : j = m := by omega
          have hdl : (t.drop j).length = t.length - j := List.length_drop
          have hex : (textOf ((j : Int) :: t)).extract (j + 1) (t.length + 1) = textOf (t.drop j) := by
            rw [textOf_extract hw, List.drop_succ_cons, List.take_of_length_le (by omega)]
          have HEX := Lib.hid hex
          clear hex hdl
          go_wp2_with fail
          rw [HEX.out]
          go_ret
          refine ⟨by rw [HV.out]; rfl, by rw [HR.out]; exact ⟨hb.setCell 0 _, fun c hc => hw c (List.mem_cons_of_mem _ (List.mem_of_mem_drop hc)), by simp only [List.length_drop]; omega⟩, (Only.refl (fun k => k = p) w).setCell (p := ⟨p, 0, none⟩) (fun _ => rfl) _⟩

end Go.Proofs.Ytogeeeigfhmpmaa
