/- What the statements of this seat lean on, part B: what the program's and the document's functions compute, in plain data. -/
import Derived.Test.YtogeeeigfhmpmaaMA
import Derived.Deep.RegionLaw
import Derived.Maps.AppendAt
import Derived.Lib.AppendStr

/- Writing numbers and texts: what the program's writer makes is what the plain lists say. -/
namespace Go.Proofs.Ytogeeeigfhmpmaa
open Go.RowKit
set_option maxRecDepth 100000

/-- block p is a writer that has laid l, in a row of the call's own -/
def WriterAt (w : World) (base p : Nat) (l : List Int) : Prop := base ≤ p ∧ ∃ v, Blk w p #[v] 102 ∧ Bts w base v l

theorem Bts.apart {w : World} {base p : Nat} {v : Value} {l : List Int} {cs : Array Value} {t : TypeId} (h : Bts w base v l) (hb : Blk w p cs t) (ht : t ≠ 5) : v.ownBlock ≠ some p := by
  rcases h.2 with ⟨rfl, h0⟩ | ⟨g, cap, cur, rfl, _, hg, _⟩
  · simp [Value.ownBlock]
  · intro e
    have e' : g = p := by simpa [Value.ownBlock] using e
    subst e'
    unfold Blk at hb
    rw [hb] at hg
    cases hg
    exact ht rfl

section
variable {ops : Array Oper} {o : Oper} {a : Act} {K : Act → World → Prop} {Q : Exit → Act → World → Prop} {E : Prop}
/-- 'append' of a byte, as one step of a region that draws -/
theorem step_append_byte (w : World) (hgd : o.guard = none) (s x : Operand) (ho : o.op = .call { callee := .builtin .append, args := #[s, x], argTypes := #[100, 100] })
    (base : Nat) (v : Value) (l : List Int) (c : Int) (ad : Addr) (n : Nat) (hs : a.eval s = v) (hown : Bts w base v l) (hx : a.eval x = .slice (some ad) 1 n) (hc : w.cell? ad = some (.int .u8 c))
    (hlen : l.length + 1 ≤ 140737488355328) (hbase : base ≤ w.heap.size)
    (h : ∀ v' w', Bts w' base v' (l ++ [c]) → w.grownBy w' v.ownBlock → K (a.put o.dst v') w') : if Region.wanted o (yielded ops a.tmps) = true then Oper.wp Try.prog o a w K Q else E := by
  have hw : Region.wanted o (yielded ops a.tmps) = true := by simp [Region.wanted, hgd]
  rw [if_pos hw]
  obtain ⟨i, hi, hz, hsz, hby⟩ := info_parts By.info
  unfold Oper.wp execOp
  simp only [ho, resolve, invoke, builtin, Sem.run_bind, Sem.run_pure, Result.andThen_ok, List.map_toArray, List.map_cons, List.map_nil, hs, hx]
  obtain ⟨v', w', hr, h2, h3, _, h5⟩ := run_append_own_at (P := Try.prog) w base 100 o.type 5 i (.int .u8 0) 1 1 By.u_bytes hi hz hsz hby rfl (by decide) v l.length _ hown ad 1 n [.int .u8 c] (by simp) (by
    intro j u hj
    cases j with
    | zero =>
      cases hj
      have : ad.add 0 = ad := by unfold Addr.add; obtain ⟨b, off, sp⟩ := ad; cases sp <;> rfl
      rw [this]; exact hc
    | succ j => cases hj) (by simp [Value.oneCell']) (by unfold maxLen; omega) (by omega) hbase
  rw [hr]
  refine h v' w' ?_ h3
  unfold Bts
  simpa using h2
end

theorem cell_byte_drew (w : World) (c : Int) (t : TypeId) (n : Nat) (hn : n = w.heap.size) : (w.alloc (.cells #[.int .u8 c] t)).drew.cell? ⟨n, 0, none⟩ = some (.int .u8 c) := cell_byte w c t n hn
theorem shr_byte (x i : Nat) : IntKind.u8.wrap ((x : Int) / 2 ^ (8 * (i : Int)).toNat) = ((x / 256 ^ i % 256 : Nat) : Int) := by
  have e : (8 * (i : Int)).toNat = 8 * i := by omega
  have e2 : (256 : Nat) ^ i = 2 ^ (8 * i) := by rw [Nat.pow_mul]
  rw [e, e2]
  show ((x : Int) / 2 ^ (8 * i)) % 256 = _
  norm_cast
theorem WriterAt.put {w2 : World} {base p : Nat} {v v2 : Value} {m : List Int} (hbp : base ≤ p) (hp2 : Blk w2 p #[v] 102) (hb2 : Bts w2 base v2 m) : WriterAt (w2.setCell ⟨p, 0, none⟩ v2) base p m := by
  have hap := hb2.apart hp2 (by decide)
  refine ⟨hbp, v2, hp2.setCell 0 v2, Bts.keeps (S := fun k => k = p) hb2 ((Only.refl (fun k => k = p) w2).setCell (p := ⟨p, 0, none⟩) (fun _ => rfl) _) ?_⟩
  intro k hk e
  subst e
  exact hap hk
theorem writer_only2 {w w1 w2 : World} {base p : Nat} {v v2 : Value} {l : List Int} {o : Obj} (hbp : base ≤ p) (ho : Only (fun k => base ≤ k) w w1) (hown : Bts w1 base v l) (hg : (w1.alloc o).drew.grownBy w2 v.ownBlock) : Only (fun k => base ≤ k) w (w2.setCell ⟨p, 0, none⟩ v2) :=
  (((ho.alloc o).drew).grown hg (fun k hk _ => (World.ownsRow.lt hown k hk).1)).setCell (p := ⟨p, 0, none⟩) (fun _ => hbp) _
theorem writer_only {w w1 w2 : World} {base p : Nat} {v v2 : Value} {l : List Int} {o : Obj} (hbp : base ≤ p) (ho : Only (fun k => base ≤ k) w w1) (hown : Bts w1 base v l) (hg : (w1.alloc o).grownBy w2 v.ownBlock) : Only (fun k => base ≤ k) w (w2.setCell ⟨p, 0, none⟩ v2) :=
  ((ho.alloc o).grown hg (fun k hk _ => (World.ownsRow.lt hown k hk).1)).setCell (p := ⟨p, 0, none⟩) (fun _ => hbp) _

set_option maxHeartbeats 2000000 in
theorem wnum_at (w : World) (base p : Nat) (l : List Int) (h : WriterAt w base p l) (x : Nat) (hx : x < 18446744073709551616) (hlen : l.length ≤ 100000000000000) :
    Calls Try.prog 42 #[.pointer (some ⟨p, 0, none⟩), .int .u64 x] w fun e w' => e = .returned (.pointer (some ⟨p, 0, none⟩)) ∧ WriterAt w' base p (l ++ Pk.num x) ∧ Only (fun k => base ≤ k) w w' := by
  obtain ⟨hbp, v, hblk, hown⟩ := h
  have hpl := hblk.lt
  have hs8 := Pk.size_le8 hx
  go_enter Try.func42, Try.ntmps42
  go_wp2_with fail
  go_loop [5, 6] (fun v5 v6 => ∃ (k y : Nat), v5 = .int .i64 k ∧ v6 = .int .u64 y ∧ y < 18446744073709551616 ∧ k + Pk.size y = Pk.size x) (fun _ v6 => (intOf v6).toNat)
  case atStart => exact ⟨0, x, rfl, rfl, hx, by omega⟩
  case round =>
    obtain ⟨k, y, rfl, rfl, hy, hk⟩ := hrel
    by_cases h0 : 0 < y
    · have hsp := Pk.size_pos h0
      go_wp2_with fail
      have e : ((y : Int) / 256) = ((y / 256 : Nat) : Int) := by omega
      exact ⟨⟨k + 1, y / 256, by go_num, by rw [e], by omega, by omega⟩, by simp [intOf]; omega⟩
    · obtain rfl : y = 0 := by omega
      have hz := Pk.size_zero
      obtain ⟨K, hK⟩ : ∃ K, Pk.size x = K := ⟨_, rfl⟩
      have hkK : k = K := by omega
      subst hkK
      rw [hK] at hs8
      have HK := Lib.hid hK
      clear hK hk hz h0
      have hap := hown.apart hblk (by decide)
      have c0 := hblk.cell 0
      have f0 := hblk.free 0
      simp at c0
      have hapd : ∀ w2, w.grownBy w2 v.ownBlock → Blk w2 p #[v] 102 := fun w2 hg => (hg.block p hpl (fun e => hap e.symm)).trans hblk
      go_upto_region 9 with (first
        | (at_builtin; refine wpList_append_byte _ rfl _ _ rfl base _ l (k : Int) ⟨w.heap.size, 0, none⟩ 1 rfl (hown.keeps ((Only.refl NoBlock _).alloc _) (fun _ _ h => h)) rfl ?_ ?_ ?_ ?_; (exact cell_byte _ _ _ _ rfl); omega; (simp; omega); intro v2 w2 hb2 hg2; have hp2 : Blk w2 p #[v] 102 := (hg2.block p (by simp; omega) (fun e => hap e.symm)).trans (hblk.alloc _); have c2 := hp2.cell 0; have f2 := hp2.free 0; simp at c2; obtain ⟨g2, cap2, rfl, _, _, _⟩ := Bts.shape hb2 (by simp)))
      have hlk : (l ++ [(k : Int)]).length = l.length + 1 := by simp
      rw [hlk] at hb2
      have hW := WriterAt.put hbp hp2 hb2
      have hO : Only (fun k => base ≤ k) w (w2.setCell ⟨p, 0, none⟩ (.slice (some ⟨g2, 0, none⟩) (l.length + 1) cap2)) := writer_only hbp (Only.refl _ _) hown hg2
      generalize w2.setCell ⟨p, 0, none⟩ (.slice (some ⟨g2, 0, none⟩) (l.length + 1) cap2) = w3 at hW hO ⊢
      clear hb2 hp2 hg2 hapd hap hown hblk c0 f0 c2 f2
      go_wp2_with fail
      go_loopw [7] (fun v7 wr => ∃ j : Nat, j ≤ k ∧ v7 = .int .i64 ((k : Int) - 1 - j) ∧ WriterAt wr base p ((l ++ [(k : Int)]) ++ (Pk.be k x).take j) ∧ Only (fun k => base ≤ k) w wr) (fun v7 _ => (intOf v7 + 1).toNat)
      case atStart => exact ⟨0, by omega, by simp, by simpa using hW, hO⟩
      case round =>
        clear hW hO
        obtain ⟨j, hj, rfl, hW, hO⟩ := hrel
        by_cases hlt : j < k
        · obtain ⟨-, v, hblk, hown⟩ := hW
          have htk := Pk.be_take (x := x) hlt
          have HT := Lib.hid htk
          clear htk
          obtain ⟨m, hm⟩ : ∃ m, (l ++ [(k : Int)]) ++ (Pk.be k x).take j = m := ⟨_, rfl⟩
          have htl : m.length ≤ 100000000000009 := by
            rw [← hm, List.length_append, List.length_append, List.length_take]; simp; omega
          rw [hm] at hown
          have HM : RowKit.Hid ((l ++ [(k : Int)]) ++ (Pk.be k x).take (j + 1) = m ++ [((x / 256 ^ (k - 1 - j) % 256 : Nat) : Int)]) := Lib.hid (by rw [HT.out, ← hm, List.append_assoc, List.append_assoc, List.append_assoc])
          clear hm HT
          obtain ⟨i, hi⟩ : ∃ i, k = i + 1 + j := ⟨k - 1 - j, by omega⟩
          have hij : k - 1 - j = i := by omega
          rw [hij] at HM
          have hap := hown.apart hblk (by decide)
          have c0 := hblk.cell 0
          have f0 := hblk.free 0
          simp at c0
          have hpl2 := hblk.lt
          have hv7 : (k : Int) - 1 - j = (i : Int) := by omega
          rw [hv7]
          clear hv7
          have hi8 : i ≤ 7 := by omega
          have hw8 : IntKind.i64.wrap (8 * (i : Int)) = 8 * (i : Int) := IntWalk.i64_in _ (by omega)
          have hi0 : (0 : Int) ≤ 8 * (i : Int) := by omega
          have hsb := shr_byte x i
          have HI := Lib.hid hi
          clear hi hij hlt hj
          go_upto_region 12 with fail
          go_region_law (refine step_append_byte _ rfl _ _ rfl base _ _ ((x / 256 ^ i % 256 : Nat) : Int) ⟨wr.heap.size, 0, none⟩ 1 rfl (hown.keeps (((Only.refl NoBlock _).alloc _).drew) (fun _ _ h => h)) rfl ?_ ?_ ?_ ?_; (exact cell_byte_drew _ _ _ _ rfl); omega; (simp; omega); intro v2 w2 hb2 hg2; have hp2 : Blk w2 p #[v] 102 := (hg2.block p (by simp; omega) (fun e => hap e.symm)).trans (hblk.alloc _); have c2 := hp2.cell 0; have f2 := hp2.free 0; simp at c2; obtain ⟨g2, cap2, rfl, _, _, _⟩ := Bts.shape hb2 (by simp))
          all_goals
            have hlk : (m ++ [((x / 256 ^ i % 256 : Nat) : Int)]).length = m.length + 1 := by simp
            rw [hlk] at hb2
            have hW := WriterAt.put hbp hp2 hb2
            have hO2 : Only (fun k => base ≤ k) w (w2.setCell ⟨p, 0, none⟩ (.slice (some ⟨g2, 0, none⟩) (m.length + 1) cap2)) := writer_only2 hbp hO hown hg2
            generalize w2.setCell ⟨p, 0, none⟩ (.slice (some ⟨g2, 0, none⟩) (m.length + 1) cap2) = w3 at hW hO2 ⊢
            clear hb2 hp2 hg2 c2 f2 hsb hi0 hw8
            go_wp2_with fail
            go_roundw
            case rel => exact ⟨j + 1, by have := HI.out; omega, by congr 1; have := HI.out; omega, by rw [HM.out]; exact hW, hO2⟩
            case measure => simp [intOf]
        · obtain rfl : j = k := by omega
          rw [List.take_of_length_le (by rw [Pk.be_length]; omega)] at hW
          have hn : l ++ Pk.num x = (l ++ [(j : Int)]) ++ Pk.be j x := by unfold Pk.num; rw [HK.out]; simp
          have HN := Lib.hid hn
          clear hn
          go_wp2_with fail
          go_ret
          exact ⟨rfl, by rw [HN.out]; exact hW, hO⟩


theorem strCells_nums (s : ByteArray) : Lib.strCells s = (nums s).map (Value.int .u8) := by
  unfold Lib.strCells nums
  rw [List.map_map]
  rfl
section
variable {ops : Array Oper} {rest : List Oper} {o : Oper} {a : Act} {Q : Exit → Act → World → Prop}
/-- 'append' of a text's bytes -/
theorem wpList_append_text (w : World) (hgd : o.guard = none) (s x : Operand) (ho : o.op = .call { callee := .builtin .append, args := #[s, x], argTypes := #[100, 9] })
    (base : Nat) (v : Value) (l : List Int) (t : ByteArray) (hs : a.eval s = v) (hown : Bts w base v l) (hx : a.eval x = .string t)
    (hlen : l.length + t.size ≤ 140737488355328) (hbase : base ≤ w.heap.size)
    (h : ∀ v' w', Bts w' base v' (l ++ nums t) → w.grownBy w' v.ownBlock → wpList Try.prog ops Q rest (a.put o.dst v') w') : wpList Try.prog ops Q (o :: rest) a w := by
  obtain ⟨i, hi, hz, hsz, hby⟩ := info_parts By.info
  refine wpList_plain hgd fun K hK => ?_
  unfold Oper.wp execOp
  simp only [ho, resolve, invoke, builtin, Sem.run_bind, Sem.run_pure, Result.andThen_ok, List.map_toArray, List.map_cons, List.map_nil, hs, hx]
  obtain ⟨v', w', hr, h2, h3, _⟩ := Lib.run_append_own_string (P := Try.prog) w base 100 9 o.type 5 i By.u_bytes Cv.u_string hi hz hsz hby v l.length _ hown t (by unfold maxLen; omega) (by omega) hbase
  rw [hr]
  refine hK _ _ (h v' w' ?_ h3)
  unfold Bts
  rw [strCells_nums, ← nums_length, ← List.map_append, ← List.length_append] at h2
  exact h2
end

set_option maxHeartbeats 2000000 in
theorem wtext_at (w : World) (base p : Nat) (l : List Int) (h : WriterAt w base p l) (t : ByteArray) (ht : t.size ≤ 1000000000000) (hlen : l.length ≤ 10000000000000) :
    Calls Try.prog 99 #[.pointer (some ⟨p, 0, none⟩), .string t] w fun e w' => e = .returned (.pointer (some ⟨p, 0, none⟩)) ∧ WriterAt w' base p (l ++ Pk.text (nums t)) ∧ Only (fun k => base ≤ k) w w' := by
  have hn : l ++ Pk.text (nums t) = (l ++ Pk.num t.size) ++ nums t := by unfold Pk.text; rw [nums_length, List.append_assoc]
  have HN := Lib.hid hn
  have h8 := Pk.size_le8 (x := t.size) (by omega)
  have hnl := Pk.num_length t.size
  clear hn
  go_enter Try.func99, Try.ntmps99
  go_wp2_with fail
  refine (wnum_at w base p l h t.size (by omega) (by omega)).mono ?_
  rintro e w1 ⟨rfl, hW, hO⟩
  have hml : (l ++ Pk.num t.size).length ≤ 10000000000009 := by rw [List.length_append]; omega
  have hmp : 0 < (l ++ Pk.num t.size).length := by rw [List.length_append]; omega
  generalize l ++ Pk.num t.size = m at hW HN hml hmp
  obtain ⟨hbp, v, hblk, hown⟩ := hW
  have hap := hown.apart hblk (by decide)
  have c0 := hblk.cell 0
  have f0 := hblk.free 0
  simp at c0
  have hpl := hblk.lt
  obtain ⟨g, cap, rfl, _, _, _⟩ := Bts.shape hown hmp
  go_wp2_with (first
    | (at_builtin; refine wpList_append_text _ rfl _ _ rfl base _ m t rfl hown rfl (by omega) (by omega) ?_; intro v2 w2 hb2 hg2; have hp2 : Blk w2 p #[_] 102 := (hg2.block p hpl (fun e => hap e.symm)).trans hblk; have c2 := hp2.cell 0; have f2 := hp2.free 0; simp at c2; obtain ⟨g2, cap2, rfl, _, _, _⟩ := Bts.shape hb2 (by rw [List.length_append]; omega)))
  go_ret
  have hll : (m ++ nums t).length = m.length + (nums t).length := List.length_append
  rw [hll] at hb2
  refine ⟨rfl, by rw [HN.out]; exact WriterAt.put hbp hp2 hb2, ?_⟩
  exact (hO.grown hg2 (fun k hk _ => (World.ownsRow.lt hown k hk).1)).setCell (p := ⟨p, 0, none⟩) (fun _ => hbp) _

theorem wbytes_at (w : World) (base p : Nat) (l : List Int) (h : WriterAt w base p l) (hw : ∀ c ∈ l, 0 ≤ c ∧ c ≤ 255) :
    Calls Try.prog 44 #[.pointer (some ⟨p, 0, none⟩)] w fun e w' => e = .returned (.string (textOf l)) ∧ w = w' := by
  obtain ⟨hbp, v, hblk, hown⟩ := h
  have c0 := hblk.cell 0
  simp at c0
  obtain ⟨ao, cap, rfl⟩ := Bts.shape' hown
  have hbi := hown.read hw
  go_enter Try.func44, Try.ntmps44
  go_wp2_with (first
    | (refine wpList_conv_text _ rfl _ _ rfl Cv.u_string Cv.u_byte ao _ cap l ?_ rfl hbi ?_; (rfl)))
  go_ret
  exact ⟨rfl, rfl⟩

/-! ### reading -/
namespace Pk
theorem ba_list {x y : ByteArray} (h : x ≠ y) : x.toList ≠ y.toList := by
  rw [ByteArray.toList_eq, ByteArray.toList_eq]
  obtain ⟨⟨a⟩⟩ := x
  obtain ⟨⟨b⟩⟩ := y
  intro e
  exact h (by cases e; rfl)
end Pk
theorem textOf_extract {l : List Int} (h : ∀ c ∈ l, 0 ≤ c ∧ c ≤ 255) (a b : Nat) : (textOf l).extract a b = textOf ((l.drop a).take (b - a)) := by
  apply nums_inj
  rw [nums_extract, nums_textOf h, nums_textOf (fun c hc => h c (List.mem_of_mem_drop (List.mem_of_mem_take hc)))]
theorem textOf_get {l : List Int} (h : ∀ c ∈ l, 0 ≤ c ∧ c ≤ 255) {i : Nat} (hi : i < (textOf l).size) : (((textOf l)[i]'hi).toNat : Int) = l.getD i 0 := by
  rw [← nums_get _ i hi, nums_textOf h]
theorem textOf_nil : textOf [] = ⟨#[]⟩ := rfl

/-- block p is a reader -/
def ReaderAt (w : World) (p : Nat) (r : Pk.RD) : Prop := Blk w p #[.string (textOf r.s), .bool r.bad] 141 ∧ (∀ c ∈ r.s, 0 ≤ c ∧ c ≤ 255) ∧ r.s.length ≤ 140737488351232

theorem rfail_at (w : World) (p : Nat) (s : ByteArray) (b : Bool) (h : Blk w p #[.string s, .bool b] 141) :
    Calls Try.prog 74 #[.pointer (some ⟨p, 0, none⟩)] w fun e w' => e = .returned (.int .u64 0) ∧ ReaderAt w' p ⟨[], true⟩ ∧ Only (fun k => k = p) w w' := by
  have c0 := h.cell 0
  have c1 := h.cell 1
  have f0 := h.free 0
  have f1 := h.free 1
  simp at c0 c1
  go_enter Try.func74, Try.ntmps74
  go_wp2_with fail
  go_ret
  refine ⟨rfl, ⟨?_, by simp, by simp⟩, ?_⟩
  · exact (h.setCell 0 _).setCell 1 _
  · exact ((Only.refl (fun k => k = p) w).setCell (p := ⟨p, 0, none⟩) (fun _ => rfl) _).setCell (p := ⟨p, 1, none⟩) (fun _ => rfl) _


namespace Pk
theorem numV_no {s : List Int} (h : okNum s = false) : numV s = 0 := by unfold numV; rw [h]; rfl
theorem numR_no {r : RD} (h : okNum r.s = false) : numR r = ⟨[], true⟩ := by unfold numR; rw [h]; rfl
end Pk

theorem Pk.or_nat {x y : Nat} (hx : x < 2 ^ 64) (hy : y < 2 ^ 64) : bits .or .u64 (x : Int) (y : Int) = ((x ||| y : Nat) : Int) := by
  unfold bits
  simp only [IntKind.wrap_u64]
  show ((BitVec.ofInt 64 (x : Int) ||| BitVec.ofInt 64 (y : Int)).toNat : Int) % 18446744073709551616 = _
  rw [BitVec.toNat_or, BitVec.ofInt_natCast, BitVec.ofInt_natCast, BitVec.toNat_ofNat, BitVec.toNat_ofNat, Nat.mod_eq_of_lt hx, Nat.mod_eq_of_lt hy]
  have := Nat.or_lt_two_pow (n := 64) hx hy
  omega
theorem Pk.or_byte {x : Nat} {c : Int} (hx : x < 72057594037927936) (h0 : 0 ≤ c) (h1 : c ≤ 255) : bits .or .u64 ((x : Int) * 256) c = ((256 * x + c.toNat : Nat) : Int) := by
  obtain ⟨k, rfl⟩ := Int.eq_ofNat_of_zero_le h0
  have e : ((x : Int) * 256) = ((x * 256 : Nat) : Int) := by omega
  rw [e, Pk.or_nat (by omega) (by omega)]
  have h := Nat.shiftLeft_add_eq_or_of_lt (b := k) (i := 8) (by omega) x
  rw [Nat.shiftLeft_eq] at h
  have e2 : x * 2 ^ 8 = x * 256 := rfl
  rw [e2] at h
  rw [← h]
  have : (k : Int).toNat = k := by omega
  rw [this]
  omega

set_option maxHeartbeats 2000000 in
theorem rnum_at (w : World) (p : Nat) (r : Pk.RD) (h : ReaderAt w p r) :
    Calls Try.prog 49 #[.pointer (some ⟨p, 0, none⟩)] w fun e w' => e = .returned (.int .u64 (Pk.numV r.s : Nat)) ∧ ReaderAt w' p (Pk.numR r) ∧ Only (fun k => k = p) w w' := by
  obtain ⟨hb, hw, hl⟩ := h
  obtain ⟨s, bad⟩ := r
  simp only at hb hw hl ⊢
  have c0 := hb.cell 0
  have c1 := hb.cell 1
  have f0 := hb.free 0
  simp at c0 c1
  cases s with
  | nil =>
    have HV := Lib.hid (Pk.numV_no (s := []) rfl)
    have HR := Lib.hid (Pk.numR_no (r := ⟨[], bad⟩) rfl)
    rw [textOf_nil] at c0 hb
    go_enter Try.func49, Try.ntmps49
    go_wp2_with fail
    refine (rfail_at w p _ _ hb).mono ?_
    rintro e w1 ⟨rfl, hR, hO⟩
    go_wp2_with fail
    go_ret
    exact ⟨by rw [HV.out]; rfl, by rw [HR.out]; exact hR, hO⟩
  | cons n t =>
    have hsz : (textOf (n :: t)).size = t.length + 1 := by rw [textOf_size]; rfl
    have hg0 := textOf_get hw (i := 0) (by omega)
    rw [List.getD_cons_zero] at hg0
    obtain ⟨hn0, hn1⟩ := hw n (by simp)
    have hl1 : t.length ≤ 140737488351232 := by rw [List.length_cons] at hl; omega
    have hwt : wrap64 (t.length : Int) = (t.length : Int) := by unfold wrap64; omega
    have hne : ((textOf (n :: t)).toList == []) = false := by
      have : (textOf (n :: t)).toList ≠ (⟨#[]⟩ : ByteArray).toList := Pk.ba_list (by intro e; have := congrArg ByteArray.size e; have h0 : (⟨#[]⟩ : ByteArray).size = 0 := rfl; omega)
      simpa using this
    go_enter Try.func49, Try.ntmps49
    go_upto_region 4 with fail
    clear hg0 hne
    by_cases h8 : 8 < n
    · have hno : Pk.okNum (n :: t) = false := by unfold Pk.okNum; simp [h8]
      have hd8 : decide ((8 : Int) < n) = true := by simpa using h8
      clear h8
      have HV := Lib.hid (Pk.numV_no hno)
      have HR := Lib.hid (Pk.numR_no (r := ⟨n :: t, bad⟩) hno)
      clear hno
      go_wp2_with fail
      refine (rfail_at w p _ _ hb).mono ?_
      rintro e w1 ⟨rfl, hR, hO⟩
      go_wp2_with fail
      go_ret
      exact ⟨by rw [HV.out]; rfl, by rw [HR.out]; exact hR, hO⟩
    have hd8 : decide ((8 : Int) < n) = false := by simpa using h8
    by_cases hlt : (t.length : Int) < n
    · have hno : Pk.okNum (n :: t) = false := by unfold Pk.okNum; simp [hlt]
      have hd9 : decide ((t.length : Int) < n) = true := by simpa using hlt
      clear hlt h8
      have HV := Lib.hid (Pk.numV_no hno)
      have HR := Lib.hid (Pk.numR_no (r := ⟨n :: t, bad⟩) hno)
      clear hno
      go_wp2_with fail
      refine (rfail_at w p _ _ hb).mono ?_
      rintro e w1 ⟨rfl, hR, hO⟩
      go_wp2_with fail
      go_ret
      exact ⟨by rw [HV.out]; rfl, by rw [HR.out]; exact hR, hO⟩
    have hd9 : decide ((t.length : Int) < n) = false := by simpa using hlt
    obtain ⟨m, rfl⟩ : ∃ m : Nat, n = (m : Int) := ⟨n.toNat, by omega⟩
    have hm8 : m ≤ 8 := by omega
    have hmt : m ≤ t.length := by omega
    clear h8 hlt
    by_cases hz : 0 < m ∧ t.getD 0 0 = 0
    · have hno : Pk.okNum ((m : Int) :: t) = false := by
        unfold Pk.okNum
        have h1 := hz.1
        have h2 := hz.2
        simp only [Bool.not_eq_false', Bool.or_eq_true, Bool.and_eq_true, decide_eq_true_eq]
        exact .inr ⟨by omega, h2⟩
      have hs1 : 1 < (textOf ((m : Int) :: t)).size := by omega
      have hg1 := textOf_get hw hs1
      rw [List.getD_cons_succ, hz.2] at hg1
      have hm0 := hz.1
      have hd0 : decide ((0 : Int) < (m : Int)) = true := by simpa using hm0
      clear hz
      have HV := Lib.hid (Pk.numV_no hno)
      have HR := Lib.hid (Pk.numR_no (r := ⟨(m : Int) :: t, bad⟩) hno)
      clear hno
      go_wp2_with fail
      refine (rfail_at w p _ _ hb).mono ?_
      rintro e w1 ⟨rfl, hR, hO⟩
      go_wp2_with fail
      go_ret
      exact ⟨by rw [HV.out]; rfl, by rw [HR.out]; exact hR, hO⟩
    have hok : Pk.okNum ((m : Int) :: t) = true := by
      unfold Pk.okNum
      simp only [Bool.not_eq_true', Bool.or_eq_false_iff, Bool.and_eq_false_iff, decide_eq_false_iff_not]
      refine ⟨⟨by omega, by omega⟩, ?_⟩
      by_cases h : 0 < m
      · exact .inr (fun e => hz ⟨h, e⟩)
      · exact .inl (by omega)
    have hV : Pk.numV ((m : Int) :: t) = Pk.val (t.take m) := by unfold Pk.numV; rw [if_pos hok]; rfl
    have hR : Pk.numR ⟨(m : Int) :: t, bad⟩ = ⟨t.drop m, bad⟩ := by unfold Pk.numR; simp only; rw [if_pos hok]; rfl
    have HV := Lib.hid hV
    have HR := Lib.hid hR
    clear hok hV hR
    by_cases hm0 : 0 < m
    · have hs1 : 1 < (textOf ((m : Int) :: t)).size := by omega
      have hg1 := textOf_get hw hs1
      rw [List.getD_cons_succ] at hg1
      have hzz : (t.getD 0 0 == 0) = false := by
        have : t.getD 0 0 ≠ 0 := fun e => hz ⟨hm0, e⟩
        simpa using this
      generalize t.getD 0 0 = c at hg1 hzz
      have hd0 : decide ((0 : Int) < (m : Int)) = true := by simpa using hm0
      go_upto_region 8 with fail
      clear hg1 hzz hz hm0 hd0 hd8 hd9
      go_loop [4, 5] (fun v4 v5 => ∃ j : Nat, j ≤ m ∧ v5 = .int .i64 ((j : Int) + 1) ∧ v4 = .int .u64 (Pk.val (t.take j) : Nat)) (fun _ v5 => m + 1 - (intOf v5).toNat)
      case atStart => exact ⟨0, by omega, rfl, rfl⟩
      case round =>
        obtain ⟨j, hj, rfl, rfl⟩ := hrel
        by_cases hjm : j < m
        · have hjs : j + 1 < (textOf ((m : Int) :: t)).size := by omega
          have hgj := textOf_get hw hjs
          rw [List.getD_cons_succ] at hgj
          have htk : Pk.val (t.take (j + 1)) = 256 * Pk.val (t.take j) + (t.getD j 0).toNat := by
            rw [List.take_add_one, List.getElem?_eq_getElem (by omega), List.getD_eq_getElem?_getD, List.getElem?_eq_getElem (by omega)]
            exact Pk.val_snoc _ _
          have hcb := hw (t.getD j 0) (by
            rw [List.getD_eq_getElem?_getD, List.getElem?_eq_getElem (by omega)]
            exact List.mem_cons_of_mem _ (List.getElem_mem _))
          have hvl := Pk.val_lt (t.take j) (fun c hc => hw c (List.mem_cons_of_mem _ (List.mem_of_mem_take hc)))
          have hvb : Pk.val (t.take j) < 72057594037927936 := by
            refine Nat.lt_of_lt_of_le hvl ?_
            have : (t.take j).length ≤ 7 := by rw [List.length_take]; omega
            exact Nat.le_trans (Nat.pow_le_pow_right (by decide) this) (by decide)
          have HT := Lib.hid htk
          clear htk hvl
          generalize t.getD j 0 = c at hgj hcb HT
          generalize Pk.val (t.take j) = x at hvb HT ⊢
          obtain ⟨hc0, hc1⟩ := hcb
          go_wp2_with fail
          exact ⟨⟨j + 1, by omega, by congr 1, by rw [Pk.or_byte hvb hc0 hc1, HT.out]⟩, by simp [intOf]; omega⟩
        · obtain rfl : j = m := by omega
          have hdl : (t.drop j).length = t.length - j := List.length_drop
          have hex : (textOf ((j : Int) :: t)).extract (j + 1) (t.length + 1) = textOf (t.drop j) := by
            rw [textOf_extract hw, List.drop_succ_cons, List.take_of_length_le (by omega)]
          have HEX := Lib.hid hex
          clear hex hdl
          go_wp2_with fail
          rw [HEX.out]
          go_ret
          refine ⟨by rw [HV.out]; rfl, by rw [HR.out]; exact ⟨hb.setCell 0 _, fun c hc => hw c (List.mem_cons_of_mem _ (List.mem_of_mem_drop hc)), by simp only [List.length_drop]; omega⟩, (Only.refl (fun k => k = p) w).setCell (p := ⟨p, 0, none⟩) (fun _ => rfl) _⟩
    · have hd0 : decide ((0 : Int) < (m : Int)) = false := by simp; omega
      go_upto_region 8 with fail
      clear hz hm0 hd0 hd8 hd9
      go_loop [4, 5] (fun v4 v5 => ∃ j : Nat, j ≤ m ∧ v5 = .int .i64 ((j : Int) + 1) ∧ v4 = .int .u64 (Pk.val (t.take j) : Nat)) (fun _ v5 => m + 1 - (intOf v5).toNat)
      case atStart => exact ⟨0, by omega, rfl, rfl⟩
      case round =>
        obtain ⟨j, hj, rfl, rfl⟩ := hrel
        by_cases hjm : j < m
        · have hjs : j + 1 < (textOf ((m : Int) :: t)).size := by omega
          have hgj := textOf_get hw hjs
          rw [List.getD_cons_succ] at hgj
          have htk : Pk.val (t.take (j + 1)) = 256 * Pk.val (t.take j) + (t.getD j 0).toNat := by
            rw [List.take_add_one, List.getElem?_eq_getElem (by omega), List.getD_eq_getElem?_getD, List.getElem?_eq_getElem (by omega)]
            exact Pk.val_snoc _ _
          have hcb := hw (t.getD j 0) (by
            rw [List.getD_eq_getElem?_getD, List.getElem?_eq_getElem (by omega)]
            exact List.mem_cons_of_mem _ (List.getElem_mem _))
          have hvl := Pk.val_lt (t.take j) (fun c hc => hw c (List.mem_cons_of_mem _ (List.mem_of_mem_take hc)))
          have hvb : Pk.val (t.take j) < 72057594037927936 := by
            refine Nat.lt_of_lt_of_le hvl ?_
            have : (t.take j).length ≤ 7 := by rw [List.length_take]; omega
            exact Nat.le_trans (Nat.pow_le_pow_right (by decide) this) (by decide)
          have HT := Lib.hid htk
          clear htk hvl
          generalize t.getD j 0 = c at hgj hcb HT
          generalize Pk.val (t.take j) = x at hvb HT ⊢
          obtain ⟨hc0, hc1⟩ := hcb
          go_wp2_with fail
          exact ⟨⟨j + 1, by omega, by congr 1, by rw [Pk.or_byte hvb hc0 hc1, HT.out]⟩, by simp [intOf]; omega⟩
        · obtain rfl : j = m := by omega
          have hdl : (t.drop j).length = t.length - j := List.length_drop
          have hex : (textOf ((j : Int) :: t)).extract (j + 1) (t.length + 1) = textOf (t.drop j) := by
            rw [textOf_extract hw, List.drop_succ_cons, List.take_of_length_le (by omega)]
          have HEX := Lib.hid hex
          clear hex hdl
          go_wp2_with fail
          rw [HEX.out]
          go_ret
          refine ⟨by rw [HV.out]; rfl, by rw [HR.out]; exact ⟨hb.setCell 0 _, fun c hc => hw c (List.mem_cons_of_mem _ (List.mem_of_mem_drop hc)), by simp only [List.length_drop]; omega⟩, (Only.refl (fun k => k = p) w).setCell (p := ⟨p, 0, none⟩) (fun _ => rfl) _⟩

end Go.Proofs.Ytogeeeigfhmpmaa

/- Reading on: limits, texts, what is left; what the program's reader answers is what the plain lists say. -/
namespace Go.Proofs.Ytogeeeigfhmpmaa
open Go.RowKit
set_option maxRecDepth 100000

theorem rfrom_at (w : World) (s : ByteArray) (hs : s.size ≤ 140737488351232) :
    Calls Try.prog 46 #[.string s] w fun e w' => e = .returned (.pointer (some ⟨w.heap.size, 0, none⟩)) ∧ ReaderAt w' w.heap.size ⟨nums s, false⟩ ∧ Only NoBlock w w' := by
  go_enter Try.func46, Try.ntmps46
  go_wp2_with fail
  go_ret
  refine ⟨rfl, ⟨?_, nums_byte s, by rw [nums_length]; exact hs⟩, (Only.refl _ _).alloc _⟩
  rw [textOf_nums]
  exact Blk.made w _ _

theorem rup_at (w : World) (p : Nat) (r : Pk.RD) (h : ReaderAt w p r) (L : Nat) (hL : L ≤ 9223372036854775807) :
    Calls Try.prog 48 #[.pointer (some ⟨p, 0, none⟩), .int .i64 (L : Int)] w fun e w' => e = .returned (.int .i64 ((r.up L).1 : Nat)) ∧ ReaderAt w' p (r.up L).2 ∧ Only (fun k => k = p) w w' := by
  have hlt := Pk.numV_lt h.2.1
  go_enter Try.func48, Try.ntmps48
  go_wp2_with fail
  refine (rnum_at w p r h).mono ?_
  rintro e w1 ⟨rfl, hR, hO⟩
  by_cases hle : Pk.numV r.s ≤ L
  · have hu : r.up L = (Pk.numV r.s, Pk.numR r) := by unfold Pk.RD.up; rw [if_pos hle]
    have HU := Lib.hid hu
    clear hu
    generalize Pk.numV r.s = x at hlt hle HU ⊢
    have hd : decide ((L : Int) < (x : Int)) = false := by simp; omega
    have hl0 : ¬ (L : Int) < 0 := by omega
    go_wp2_with fail
    go_ret
    exact ⟨by rw [HU.out]; rfl, by rw [HU.out]; exact hR, hO⟩
  · have hu : r.up L = (0, ⟨[], true⟩) := by unfold Pk.RD.up; rw [if_neg hle]
    have HU := Lib.hid hu
    clear hu
    generalize Pk.numV r.s = x at hlt hle HU ⊢
    have hd : decide ((L : Int) < (x : Int)) = true := by simp; omega
    have hl0 : ¬ (L : Int) < 0 := by omega
    go_wp2_with fail
    refine (rfail_at w1 p _ _ hR.1).mono ?_
    rintro e w2 ⟨rfl, hR2, hO2⟩
    go_wp2_with fail
    go_ret
    exact ⟨by rw [HU.out]; rfl, by rw [HU.out]; exact hR2, hO.trans hO2⟩

theorem rtext_at (w : World) (p : Nat) (r : Pk.RD) (h : ReaderAt w p r) (L : Nat) (hL : L ≤ 9223372036854775807) :
    Calls Try.prog 76 #[.pointer (some ⟨p, 0, none⟩), .int .i64 (L : Int)] w fun e w' => e = .returned (.string (textOf (r.text L).1)) ∧ ReaderAt w' p (r.text L).2 ∧ Only (fun k => k = p) w w' := by
  go_enter Try.func76, Try.ntmps76
  go_wp2_with fail
  refine (rup_at w p r h L hL).mono ?_
  rintro e w1 ⟨rfl, hR, hO⟩
  have ht : r.text L = if (r.up L).1 ≤ (r.up L).2.s.length then ((r.up L).2.s.take (r.up L).1, ⟨(r.up L).2.s.drop (r.up L).1, (r.up L).2.bad⟩) else ([], ⟨[], true⟩) := rfl
  have HT := Lib.hid ht
  clear ht
  generalize (r.up L).1 = n at HT ⊢
  generalize (r.up L).2 = q at HT hR
  obtain ⟨s, bad⟩ := q
  obtain ⟨hb, hw, hl⟩ := hR
  simp only at hb hw hl HT
  have c0 := hb.cell 0
  have f0 := hb.free 0
  simp at c0
  have hsz : (textOf s).size = s.length := textOf_size s
  by_cases hle : n ≤ s.length
  · have ht := HT.out
    rw [if_pos hle] at ht
    have HT2 := Lib.hid ht
    have hd : decide ((s.length : Int) < (n : Int)) = false := by simp; omega
    have h1 : (textOf s).extract 0 n = textOf (s.take n) := by rw [textOf_extract hw]; rfl
    have h2 : (textOf s).extract n s.length = textOf (s.drop n) := by rw [textOf_extract hw, List.take_of_length_le (by rw [List.length_drop]; omega)]
    have H1 := Lib.hid h1
    have H2 := Lib.hid h2
    clear ht HT h1 h2
    go_wp2_with fail
    rw [H1.out, H2.out]
    go_ret
    refine ⟨by rw [HT2.out]; rfl, by rw [HT2.out]; exact ⟨hb.setCell 0 _, fun c hc => hw c (List.mem_of_mem_drop hc), by simp only [List.length_drop]; omega⟩, hO.setCell (p := ⟨p, 0, none⟩) (fun _ => rfl) _⟩
  · have ht := HT.out
    rw [if_neg hle] at ht
    have HT2 := Lib.hid ht
    have hd : decide ((s.length : Int) < (n : Int)) = true := by simp; omega
    clear ht HT
    go_wp2_with fail
    refine (rfail_at w1 p _ _ hb).mono ?_
    rintro e w2 ⟨rfl, hR2, hO2⟩
    go_wp2_with fail
    go_ret
    exact ⟨by rw [HT2.out]; rfl, by rw [HT2.out]; exact hR2, hO.trans hO2⟩

theorem rleft_at (w : World) (p : Nat) (r : Pk.RD) (h : ReaderAt w p r) :
    Calls Try.prog 73 #[.pointer (some ⟨p, 0, none⟩)] w fun e w' => e = .returned (.tuple #[.int .i64 r.s.length, .bool (!r.bad)]) ∧ ∃ q, w' = w.drewN q := by
  obtain ⟨hb, hw, hl⟩ := h
  have c0 := hb.cell 0
  have c1 := hb.cell 1
  simp at c0 c1
  have hsz : (textOf r.s).size = r.s.length := textOf_size _
  go_enter Try.func73, Try.ntmps73
  go_wp2_with fail
  go_quiet (fail)
  go_wp2_with fail
  go_ret2
  exact ⟨rfl, _, rfl⟩

theorem rdone_at (w : World) (p : Nat) (r : Pk.RD) (h : ReaderAt w p r) :
    Calls Try.prog 51 #[.pointer (some ⟨p, 0, none⟩)] w fun e w' => e = .returned (.bool r.done) ∧ ∃ q, w' = w.drewN q := by
  have hl := h.2.2
  go_enter Try.func51, Try.ntmps51
  go_wp2_with fail
  refine (rleft_at w p r h).mono ?_
  rintro e w1 ⟨rfl, q, rfl⟩
  obtain ⟨s, bad⟩ := r
  simp only at hl ⊢
  cases s with
  | nil =>
    go_wp2_with fail
    go_ret
    exact ⟨rfl, _, rfl⟩
  | cons c t =>
    have hd : (((c :: t).length : Int) == 0) = false := by simp; omega
    generalize hn : (c :: t).length = n at hd hl ⊢
    clear hn
    go_wp2_with fail
    go_ret
    exact ⟨rfl, _, rfl⟩

theorem rbool_at (w : World) (p : Nat) (r : Pk.RD) (h : ReaderAt w p r) :
    Calls Try.prog 57 #[.pointer (some ⟨p, 0, none⟩)] w fun e w' => e = .returned (.bool (decide ((r.up 1).1 = 1))) ∧ ReaderAt w' p (r.up 1).2 ∧ Only (fun k => k = p) w w' := by
  go_enter Try.func57, Try.ntmps57
  go_wp2_with fail
  refine (rup_at w p r h 1 (by omega)).mono ?_
  rintro e w1 ⟨rfl, hR, hO⟩
  obtain ⟨n, hn⟩ : ∃ n, (r.up 1).1 = n := ⟨_, rfl⟩
  rw [hn]
  have HN := Lib.hid hn
  clear hn
  have hd : ((n : Int) == 1) = decide (n = 1) := by rw [Bool.eq_iff_iff]; simp; omega
  go_wp2_with fail
  go_ret
  exact ⟨by rw [HN.out]; first | rfl | (rw [← hd]; rfl), hR, hO⟩

end Go.Proofs.Ytogeeeigfhmpmaa

/- The document's numbers and texts, and its reader: what they answer is what the plain lists say. -/
namespace Go.Proofs.Ytogeeeigfhmpmaa
open Go.RowKit
set_option maxRecDepth 100000

theorem byte_in (w : World) (c : Int) (h0 : 0 ≤ c) (h1 : c ≤ 255) (t : TypeId) : BytesIn (w.alloc (.cells #[.int .u8 c] t)) (some ⟨w.heap.size, 0, none⟩) [c] :=
  ⟨by simpa using ⟨h0, h1⟩, by unfold maxLen; simp, fun i hi => ⟨w.heap.size, 0, rfl, by
    have : i = 0 := by simp at hi; omega
    subst this
    exact cell_byte w c t _ rfl⟩⟩

set_option maxHeartbeats 2000000 in
theorem dnum_at (w : World) (x : Nat) (hx : x < 18446744073709551616) :
    Calls Try.prog 54 #[.int .u64 x] w fun e w' => e = .returned (.string (textOf (Pk.num x))) ∧ Only NoBlock w w' := by
  have h8 := Pk.size_le8 hx
  go_enter Try.func54, Try.ntmps54
  go_wp2_with fail
  go_loopw [0, 3, 4] (fun v0 v3 v4 wr => ∃ (k y : Nat), v0 = .int .u64 y ∧ v3 = .string (textOf (Pk.be k x)) ∧ v4 = .int .i64 k ∧ y < 18446744073709551616 ∧ k + Pk.size y = Pk.size x ∧ RowKit.Hid (y = x / 256 ^ k) ∧ Only NoBlock w wr) (fun v0 _ _ _ => (intOf v0).toNat)
  case atStart => exact ⟨0, x, rfl, rfl, rfl, hx, by omega, Lib.hid (by simp), Only.refl _ _⟩
  case round =>
    obtain ⟨k, y, rfl, rfl, rfl, hy, hk, HY, ho⟩ := hrel
    by_cases h0 : 0 < y
    · have hsp := Pk.size_pos h0
      have hbe : Pk.be (k + 1) x = ((y % 256 : Nat) : Int) :: Pk.be k x := by rw [Pk.be_snoc_high, HY.out]
      have HB := Lib.hid hbe
      clear hbe
      have hm0 : (0 : Int) ≤ (y : Int) % 256 := by omega
      have hm1 : (y : Int) % 256 ≤ 255 := by omega
      have hln : (textOf (Pk.be k x)).size ≤ 8 := by rw [textOf_size, Pk.be_length]; omega
      have hl1 : (textOf [(y : Int) % 256]).size ≤ 1 := by rw [textOf_size]; simp
      go_wp2_with (first
        | (refine wpList_conv_text _ rfl _ _ rfl Cv.u_string Cv.u_byte (some ⟨wr.heap.size, 0, none⟩) 1 1 [(y : Int) % 256] ?_ rfl (byte_in _ _ hm0 hm1 _) ?_; (rfl)))
      have e : ((y : Int) / 256) = ((y / 256 : Nat) : Int) := by omega
      refine ⟨⟨k + 1, y / 256, by rw [e], ?_, by go_num, by omega, by omega, Lib.hid ?_, ho.alloc _⟩, by simp [intOf]; omega⟩
      · rw [HB.out, ← textOf_append]
        have e2 : ((y : Int) % 256) = ((y % 256 : Nat) : Int) := by omega
        rw [e2]
        rfl
      · rw [HY.out, Nat.pow_succ, Nat.div_div_eq_div_mul]
    · obtain rfl : y = 0 := by omega
      have hz := Pk.size_zero
      have hk' : k = Pk.size x := by omega
      have hn : Pk.num x = (k : Int) :: Pk.be k x := by unfold Pk.num; rw [hk']
      have HN := Lib.hid hn
      have hk8 : k ≤ 8 := by omega
      clear hn hk' hz hk h0 h8
      have hln : (textOf (Pk.be k x)).size ≤ 8 := by rw [textOf_size, Pk.be_length]; omega
      have hl1 : (textOf [(k : Int)]).size ≤ 1 := by rw [textOf_size]; simp
      go_wp2_with (first
        | (refine wpList_conv_text _ rfl _ _ rfl Cv.u_string Cv.u_byte (some ⟨wr.heap.size, 0, none⟩) 1 1 [(k : Int)] ?_ rfl (byte_in _ _ (by omega) (by omega) _) ?_; (rfl)))
      go_ret
      exact ⟨by rw [HN.out]; exact congrArg (fun t => Ending.returned (Value.string t)) (textOf_append [(k : Int)] (Pk.be k x)).symm, ho.alloc _⟩

theorem dtext_at (w : World) (t : ByteArray) (ht : t.size ≤ 1000000000000) :
    Calls Try.prog 55 #[.string t] w fun e w' => e = .returned (.string (textOf (Pk.text (nums t)))) ∧ Only NoBlock w w' := by
  have hn : textOf (Pk.text (nums t)) = textOf (Pk.num t.size) ++ t := by unfold Pk.text; rw [textOf_append, textOf_nums, nums_length]
  have HN := Lib.hid hn
  clear hn
  have h8 := Pk.size_le8 (x := t.size) (by omega)
  have hsz : (textOf (Pk.num t.size)).size ≤ 9 := by rw [textOf_size, Pk.num_length]; omega
  go_enter Try.func55, Try.ntmps55
  go_wp2_with fail
  refine (dnum_at w t.size (by omega)).mono ?_
  rintro e w1 ⟨rfl, ho⟩
  go_wp2_with fail
  go_ret
  exact ⟨by rw [HN.out]; rfl, ho⟩

/-- block p is the document's reader -/
def DReaderAt (w : World) (p : Nat) (r : Pk.RD) : Prop := Blk w p #[.string (textOf r.s), .bool r.bad] 91 ∧ (∀ c ∈ r.s, 0 ≤ c ∧ c ≤ 255) ∧ r.s.length ≤ 1000000000000

theorem dfail_at (w : World) (p : Nat) (s : ByteArray) (b : Bool) (h : Blk w p #[.string s, .bool b] 91) :
    Calls Try.prog 69 #[.pointer (some ⟨p, 0, none⟩)] w fun e w' => e = .returned (.tuple #[]) ∧ DReaderAt w' p ⟨[], true⟩ ∧ Only (fun k => k = p) w w' := by
  have c0 := h.cell 0
  have c1 := h.cell 1
  have f0 := h.free 0
  have f1 := h.free 1
  simp at c0 c1
  go_enter Try.func69, Try.ntmps69
  go_wp2_with fail
  go_end0
  refine ⟨rfl, ⟨?_, by simp, by simp⟩, ?_⟩
  · exact (h.setCell 0 _).setCell 1 _
  · exact ((Only.refl (fun k => k = p) w).setCell (p := ⟨p, 0, none⟩) (fun _ => rfl) _).setCell (p := ⟨p, 1, none⟩) (fun _ => rfl) _


set_option maxHeartbeats 2000000 in
theorem dnumr_at (w : World) (p : Nat) (r : Pk.RD) (h : DReaderAt w p r) :
    Calls Try.prog 36 #[.pointer (some ⟨p, 0, none⟩)] w fun e w' => e = .returned (.int .u64 (Pk.numV r.s : Nat)) ∧ DReaderAt w' p (Pk.numR r) ∧ Only (fun k => k = p) w w' := by
  obtain ⟨hb, hw, hl⟩ := h
  obtain ⟨s, bad⟩ := r
  simp only at hb hw hl ⊢
  have c0 := hb.cell 0
  have c1 := hb.cell 1
  have f0 := hb.free 0
  simp at c0 c1
  cases s with
  | nil =>
    have HV := Lib.hid (Pk.numV_no (s := []) rfl)
    have HR := Lib.hid (Pk.numR_no (r := ⟨[], bad⟩) rfl)
    rw [textOf_nil] at c0 hb
    go_enter Try.func36, Try.ntmps36
    go_wp2_with fail
    refine (dfail_at w p _ _ hb).mono ?_
    rintro e w1 ⟨rfl, hR, hO⟩
    go_wp2_with fail
    go_ret
    exact ⟨by rw [HV.out]; rfl, by rw [HR.out]; exact hR, hO⟩
  | cons n t =>
    have hsz : (textOf (n :: t)).size = t.length + 1 := by rw [textOf_size]; rfl
    have hg0 := textOf_get hw (i := 0) (by omega)
    rw [List.getD_cons_zero] at hg0
    obtain ⟨hn0, hn1⟩ := hw n (by simp)
    have hl1 : t.length ≤ 1000000000000 := by rw [List.length_cons] at hl; omega
    have hwt : wrap64 (t.length : Int) = (t.length : Int) := by unfold wrap64; omega
    have hne : ((textOf (n :: t)).toList == []) = false := by
      have : (textOf (n :: t)).toList ≠ (⟨#[]⟩ : ByteArray).toList := Pk.ba_list (by intro e; have := congrArg ByteArray.size e; have h0 : (⟨#[]⟩ : ByteArray).size = 0 := rfl; omega)
      simpa using this
    go_enter Try.func36, Try.ntmps36
    go_upto_region 4 with fail
    clear hg0 hne
    by_cases h8 : 8 < n
    · have hno : Pk.okNum (n :: t) = false := by unfold Pk.okNum; simp [h8]
      have hd8 : decide ((8 : Int) < n) = true := by simpa using h8
      clear h8
      have HV := Lib.hid (Pk.numV_no hno)
      have HR := Lib.hid (Pk.numR_no (r := ⟨n :: t, bad⟩) hno)
      clear hno
      go_wp2_with fail
      refine (dfail_at w p _ _ hb).mono ?_
      rintro e w1 ⟨rfl, hR, hO⟩
      go_wp2_with fail
      go_ret
      exact ⟨by rw [HV.out]; rfl, by rw [HR.out]; exact hR, hO⟩
    have hd8 : decide ((8 : Int) < n) = false := by simpa using h8
    by_cases hlt : (t.length : Int) < n
    · have hno : Pk.okNum (n :: t) = false := by unfold Pk.okNum; simp [hlt]
      have hd9 : decide ((t.length : Int) < n) = true := by simpa using hlt
      clear hlt h8
      have HV := Lib.hid (Pk.numV_no hno)
      have HR := Lib.hid (Pk.numR_no (r := ⟨n :: t, bad⟩) hno)
      clear hno
      go_wp2_with fail
      refine (dfail_at w p _ _ hb).mono ?_
      rintro e w1 ⟨rfl, hR, hO⟩
      go_wp2_with fail
      go_ret
      exact ⟨by rw [HV.out]; rfl, by rw [HR.out]; exact hR, hO⟩
    have hd9 : decide ((t.length : Int) < n) = false := by simpa using hlt
    obtain ⟨m, rfl⟩ : ∃ m : Nat, n = (m : Int) := ⟨n.toNat, by omega⟩
    have hm8 : m ≤ 8 := by omega
    have hmt : m ≤ t.length := by omega
    clear h8 hlt
    by_cases hz : 0 < m ∧ t.getD 0 0 = 0
    · have hno : Pk.okNum ((m : Int) :: t) = false := by
        unfold Pk.okNum
        have h1 := hz.1
        have h2 := hz.2
        simp only [Bool.not_eq_false', Bool.or_eq_true, Bool.and_eq_true, decide_eq_true_eq]
        exact .inr ⟨by omega, h2⟩
      have hs1 : 1 < (textOf ((m : Int) :: t)).size := by omega
      have hg1 := textOf_get hw hs1
      rw [List.getD_cons_succ, hz.2] at hg1
      have hm0 := hz.1
      have hd0 : decide ((0 : Int) < (m : Int)) = true := by simpa using hm0
      clear hz
      have HV := Lib.hid (Pk.numV_no hno)
      have HR := Lib.hid (Pk.numR_no (r := ⟨(m : Int) :: t, bad⟩) hno)
      clear hno
      go_wp2_with fail
      refine (dfail_at w p _ _ hb).mono ?_
      rintro e w1 ⟨rfl, hR, hO⟩
      go_wp2_with fail
      go_ret
      exact ⟨by rw [HV.out]; rfl, by rw [HR.out]; exact hR, hO⟩
    have hok : Pk.okNum ((m : Int) :: t) = true := by
      unfold Pk.okNum
      simp only [Bool.not_eq_true', Bool.or_eq_false_iff, Bool.and_eq_false_iff, decide_eq_false_iff_not]
      refine ⟨⟨by omega, by omega⟩, ?_⟩
      by_cases h : 0 < m
      · exact .inr (fun e => hz ⟨h, e⟩)
      · exact .inl (by omega)
    have hV : Pk.numV ((m : Int) :: t) = Pk.val (t.take m) := by unfold Pk.numV; rw [if_pos hok]; rfl
    have hR : Pk.numR ⟨(m : Int) :: t, bad⟩ = ⟨t.drop m, bad⟩ := by unfold Pk.numR; simp only; rw [if_pos hok]; rfl
    have HV := Lib.hid hV
    have HR := Lib.hid hR
    clear hok hV hR
    by_cases hm0 : 0 < m
    · have hs1 : 1 < (textOf ((m : Int) :: t)).size := by omega
      have hg1 := textOf_get hw hs1
      rw [List.getD_cons_succ] at hg1
      have hzz : (t.getD 0 0 == 0) = false := by
        have : t.getD 0 0 ≠ 0 := fun e => hz ⟨hm0, e⟩
        simpa using this
      generalize t.getD 0 0 = c at hg1 hzz
      have hd0 : decide ((0 : Int) < (m : Int)) = true := by simpa using hm0
      go_upto_region 9 with fail
      clear hg1 hzz hz hm0 hd0 hd8 hd9
      go_loop [4, 5] (fun v4 v5 => ∃ j : Nat, j ≤ m ∧ v5 = .int .i64 ((j : Int) + 1) ∧ v4 = .int .u64 (Pk.val (t.take j) : Nat)) (fun _ v5 => m + 1 - (intOf v5).toNat)
      case atStart => exact ⟨0, by omega, rfl, rfl⟩
      case round =>
        obtain ⟨j, hj, rfl, rfl⟩ := hrel
        by_cases hjm : j < m
        · have hjs : j + 1 < (textOf ((m : Int) :: t)).size := by omega
          have hgj := textOf_get hw hjs
          rw [List.getD_cons_succ] at hgj
          have htk : Pk.val (t.take (j + 1)) = 256 * Pk.val (t.take j) + (t.getD j 0).toNat := by
            rw [List.take_add_one, List.getElem?_eq_getElem (by omega), List.getD_eq_getElem?_getD, List.getElem?_eq_getElem (by omega)]
            exact Pk.val_snoc _ _
          have hcb := hw (t.getD j 0) (by
            rw [List.getD_eq_getElem?_getD, List.getElem?_eq_getElem (by omega)]
            exact List.mem_cons_of_mem _ (List.getElem_mem _))
          have hvl := Pk.val_lt (t.take j) (fun c hc => hw c (List.mem_cons_of_mem _ (List.mem_of_mem_take hc)))
          have hvb : Pk.val (t.take j) < 72057594037927936 := by
            refine Nat.lt_of_lt_of_le hvl ?_
            have : (t.take j).length ≤ 7 := by rw [List.length_take]; omega
            exact Nat.le_trans (Nat.pow_le_pow_right (by decide) this) (by decide)
          have HT := Lib.hid htk
          clear htk hvl
          generalize t.getD j 0 = c at hgj hcb HT
          generalize Pk.val (t.take j) = x at hvb HT ⊢
          obtain ⟨hc0, hc1⟩ := hcb
          go_wp2_with fail
          exact ⟨⟨j + 1, by omega, by congr 1, by rw [HT.out]; congr 1; omega⟩, by simp [intOf]; omega⟩
        · obtain rfl : j = m := by omega
          have hdl : (t.drop j).length = t.length - j := List.length_drop
          have hex : (textOf ((j : Int) :: t)).extract (j + 1) (t.length + 1) = textOf (t.drop j) := by
            rw [textOf_extract hw, List.drop_succ_cons, List.take_of_length_le (by omega)]
          have HEX := Lib.hid hex
          clear hex hdl
          go_wp2_with fail
          rw [HEX.out]
          go_ret
          refine ⟨by rw [HV.out]; rfl, by rw [HR.out]; exact ⟨hb.setCell 0 _, fun c hc => hw c (List.mem_cons_of_mem _ (List.mem_of_mem_drop hc)), by simp only [List.length_drop]; omega⟩, (Only.refl (fun k => k = p) w).setCell (p := ⟨p, 0, none⟩) (fun _ => rfl) _⟩
    · have hd0 : decide ((0 : Int) < (m : Int)) = false := by simp; omega
      go_upto_region 9 with fail
      clear hz hm0 hd0 hd8 hd9
      go_loop [4, 5] (fun v4 v5 => ∃ j : Nat, j ≤ m ∧ v5 = .int .i64 ((j : Int) + 1) ∧ v4 = .int .u64 (Pk.val (t.take j) : Nat)) (fun _ v5 => m + 1 - (intOf v5).toNat)
      case atStart => exact ⟨0, by omega, rfl, rfl⟩
      case round =>
        obtain ⟨j, hj, rfl, rfl⟩ := hrel
        by_cases hjm : j < m
        · have hjs : j + 1 < (textOf ((m : Int) :: t)).size := by omega
          have hgj := textOf_get hw hjs
          rw [List.getD_cons_succ] at hgj
          have htk : Pk.val (t.take (j + 1)) = 256 * Pk.val (t.take j) + (t.getD j 0).toNat := by
            rw [List.take_add_one, List.getElem?_eq_getElem (by omega), List.getD_eq_getElem?_getD, List.getElem?_eq_getElem (by omega)]
            exact Pk.val_snoc _ _
          have hcb := hw (t.getD j 0) (by
            rw [List.getD_eq_getElem?_getD, List.getElem?_eq_getElem (by omega)]
            exact List.mem_cons_of_mem _ (List.getElem_mem _))
          have hvl := Pk.val_lt (t.take j) (fun c hc => hw c (List.mem_cons_of_mem _ (List.mem_of_mem_take hc)))
          have hvb : Pk.val (t.take j) < 72057594037927936 := by
            refine Nat.lt_of_lt_of_le hvl ?_
            have : (t.take j).length ≤ 7 := by rw [List.length_take]; omega
            exact Nat.le_trans (Nat.pow_le_pow_right (by decide) this) (by decide)
          have HT := Lib.hid htk
          clear htk hvl
          generalize t.getD j 0 = c at hgj hcb HT
          generalize Pk.val (t.take j) = x at hvb HT ⊢
          obtain ⟨hc0, hc1⟩ := hcb
          go_wp2_with fail
          exact ⟨⟨j + 1, by omega, by congr 1, by rw [HT.out]; congr 1; omega⟩, by simp [intOf]; omega⟩
        · obtain rfl : j = m := by omega
          have hdl : (t.drop j).length = t.length - j := List.length_drop
          have hex : (textOf ((j : Int) :: t)).extract (j + 1) (t.length + 1) = textOf (t.drop j) := by
            rw [textOf_extract hw, List.drop_succ_cons, List.take_of_length_le (by omega)]
          have HEX := Lib.hid hex
          clear hex hdl
          go_wp2_with fail
          rw [HEX.out]
          go_ret
          refine ⟨by rw [HV.out]; rfl, by rw [HR.out]; exact ⟨hb.setCell 0 _, fun c hc => hw c (List.mem_cons_of_mem _ (List.mem_of_mem_drop hc)), by simp only [List.length_drop]; omega⟩, (Only.refl (fun k => k = p) w).setCell (p := ⟨p, 0, none⟩) (fun _ => rfl) _⟩



theorem dup_at (w : World) (p : Nat) (r : Pk.RD) (h : DReaderAt w p r) (L : Nat) (hL : L ≤ 9223372036854775807) :
    Calls Try.prog 35 #[.pointer (some ⟨p, 0, none⟩), .int .i64 (L : Int)] w fun e w' => e = .returned (.int .i64 ((r.up L).1 : Nat)) ∧ DReaderAt w' p (r.up L).2 ∧ Only (fun k => k = p) w w' := by
  have hlt := Pk.numV_lt h.2.1
  go_enter Try.func35, Try.ntmps35
  go_wp2_with fail
  refine (dnumr_at w p r h).mono ?_
  rintro e w1 ⟨rfl, hR, hO⟩
  by_cases hle : Pk.numV r.s ≤ L
  · have hu : r.up L = (Pk.numV r.s, Pk.numR r) := by unfold Pk.RD.up; rw [if_pos hle]
    have HU := Lib.hid hu
    clear hu
    generalize Pk.numV r.s = x at hlt hle HU ⊢
    have hd : decide ((L : Int) < (x : Int)) = false := by simp; omega
    have hl0 : ¬ (L : Int) < 0 := by omega
    go_wp2_with fail
    go_ret
    exact ⟨by rw [HU.out]; rfl, by rw [HU.out]; exact hR, hO⟩
  · have hu : r.up L = (0, ⟨[], true⟩) := by unfold Pk.RD.up; rw [if_neg hle]
    have HU := Lib.hid hu
    clear hu
    generalize Pk.numV r.s = x at hlt hle HU ⊢
    have hd : decide ((L : Int) < (x : Int)) = true := by simp; omega
    have hl0 : ¬ (L : Int) < 0 := by omega
    go_wp2_with fail
    refine (dfail_at w1 p _ _ hR.1).mono ?_
    rintro e w2 ⟨rfl, hR2, hO2⟩
    go_wp2_with fail
    go_ret
    exact ⟨by rw [HU.out]; rfl, by rw [HU.out]; exact hR2, hO.trans hO2⟩

theorem dtextr_at (w : World) (p : Nat) (r : Pk.RD) (h : DReaderAt w p r) (L : Nat) (hL : L ≤ 9223372036854775807) :
    Calls Try.prog 70 #[.pointer (some ⟨p, 0, none⟩), .int .i64 (L : Int)] w fun e w' => e = .returned (.string (textOf (r.text L).1)) ∧ DReaderAt w' p (r.text L).2 ∧ Only (fun k => k = p) w w' := by
  go_enter Try.func70, Try.ntmps70
  go_wp2_with fail
  refine (dup_at w p r h L hL).mono ?_
  rintro e w1 ⟨rfl, hR, hO⟩
  have ht : r.text L = if (r.up L).1 ≤ (r.up L).2.s.length then ((r.up L).2.s.take (r.up L).1, ⟨(r.up L).2.s.drop (r.up L).1, (r.up L).2.bad⟩) else ([], ⟨[], true⟩) := rfl
  have HT := Lib.hid ht
  clear ht
  generalize (r.up L).1 = n at HT ⊢
  generalize (r.up L).2 = q at HT hR
  obtain ⟨s, bad⟩ := q
  obtain ⟨hb, hw, hl⟩ := hR
  simp only at hb hw hl HT
  have c0 := hb.cell 0
  have f0 := hb.free 0
  simp at c0
  have hsz : (textOf s).size = s.length := textOf_size s
  by_cases hle : n ≤ s.length
  · have ht := HT.out
    rw [if_pos hle] at ht
    have HT2 := Lib.hid ht
    have hd : decide ((s.length : Int) < (n : Int)) = false := by simp; omega
    have h1 : (textOf s).extract 0 n = textOf (s.take n) := by rw [textOf_extract hw]; rfl
    have h2 : (textOf s).extract n s.length = textOf (s.drop n) := by rw [textOf_extract hw, List.take_of_length_le (by rw [List.length_drop]; omega)]
    have H1 := Lib.hid h1
    have H2 := Lib.hid h2
    clear ht HT h1 h2
    go_wp2_with fail
    rw [H1.out, H2.out]
    go_ret
    refine ⟨by rw [HT2.out]; rfl, by rw [HT2.out]; exact ⟨hb.setCell 0 _, fun c hc => hw c (List.mem_of_mem_drop hc), by simp only [List.length_drop]; omega⟩, hO.setCell (p := ⟨p, 0, none⟩) (fun _ => rfl) _⟩
  · have ht := HT.out
    rw [if_neg hle] at ht
    have HT2 := Lib.hid ht
    have hd : decide ((s.length : Int) < (n : Int)) = true := by simp; omega
    clear ht HT
    go_wp2_with fail
    refine (dfail_at w1 p _ _ hb).mono ?_
    rintro e w2 ⟨rfl, hR2, hO2⟩
    go_wp2_with fail
    go_ret
    exact ⟨by rw [HT2.out]; rfl, by rw [HT2.out]; exact hR2, hO.trans hO2⟩



end Go.Proofs.Ytogeeeigfhmpmaa

/- Readers behind calls that don't touch them. -/
namespace Go.Proofs.Ytogeeeigfhmpmaa
open Go.RowKit
theorem results_cell_tmp {P : Program} {fn : Func} {p u : Tmp} {ty : TypeId} (h : fn.results = #[.cell p ty, .tmp u]) (tmps : Array Value) (w : World) (g : Nat) (t : TypeId) (cs : Array Value) (fr : Nat × Nat) (d : TypeDesc)
    (hp : tmps.getD p undef = .pointer (some ⟨g, 0, none⟩)) (hg : w.heap[g]? = some (.cells cs t fr))
    (hu : P.underlying ty = some d) (hd : (match d with | .struct _ | .array _ _ => true | _ => false) = true) (hi : (P.info? ty).map (·.size) = some cs.size) :
    (results fn tmps).run P w = .ok (.tuple #[.agg cs, tmps.getD u undef]) w := by
  have hp' : tmps[p]?.getD undef = .pointer (some ⟨g, 0, none⟩) := by simpa using hp
  simp [results, h, hp', asAddr, run_loadVar_row w g t ty cs fr d hg hu hd hi]
theorem ReaderAt.keeps {S : Nat → Prop} {w w' : World} {p : Nat} {r : Pk.RD} (h : ReaderAt w p r) (ho : Only S w w') (hs : ¬ S p) : ReaderAt w' p r := ⟨h.1.keeps ho hs, h.2⟩
theorem DReaderAt.keeps {S : Nat → Prop} {w w' : World} {p : Nat} {r : Pk.RD} (h : DReaderAt w p r) (ho : Only S w w') (hs : ¬ S p) : DReaderAt w' p r := ⟨h.1.keeps ho hs, h.2⟩
theorem WriterAt.keeps {S : Nat → Prop} {w w' : World} {base p : Nat} {l : List Int} (h : WriterAt w base p l) (ho : Only S w w') (hs : ∀ k, S k → k < base) : WriterAt w' base p l := by
  obtain ⟨h1, v, h2, h3⟩ := h
  exact ⟨h1, v, h2.keeps ho (fun h => by have := hs _ h; omega), Bts.keeps h3 ho (fun k hk h => by have := hs _ h; have := (World.ownsRow.lt h3 k hk).1; omega)⟩
end Go.Proofs.Ytogeeeigfhmpmaa

/- plan.Read: a definition's steps are read. -/
namespace Go.Proofs.Ytogeeeigfhmpmaa
open Go.RowKit
set_option maxRecDepth 100000

/-- what is still to be read, behind these -/
def SnRest (n k : Nat) (l : List Pk.Stp) (q r : Pk.RD) : Prop := Pk.rdSn n r = (l ++ (Pk.rdSn k q).1, (Pk.rdSn k q).2)
theorem SnRest.step {n k : Nat} {l : List Pk.Stp} {q r : Pk.RD} (h : SnRest n (k + 1) l q r) : SnRest n k (l ++ [(Pk.rdS q).1]) (Pk.rdS q).2 r := by
  unfold SnRest at h ⊢
  rw [h]
  have e : Pk.rdSn (k + 1) q = ((Pk.rdS q).1 :: (Pk.rdSn k (Pk.rdS q).2).1, (Pk.rdSn k (Pk.rdS q).2).2) := rfl
  rw [e]
  simp
set_option maxHeartbeats 1600000 in
theorem planread_at (w : World) (p : Nat) (r : Pk.RD) (h : ReaderAt w p r) :
    Calls Try.prog 56 #[.pointer (some ⟨p, 0, none⟩)] w fun e w' => ∃ ao cap, e = .returned (.slice ao (Pk.rdSs r).1.length cap) ∧ RowIn stpK 38 w' ao (Pk.rdSs r).1 ∧ ReaderAt w' p (Pk.rdSs r).2 ∧ Only (fun k => k = p) w w' := by
  go_enter Try.func56, Try.ntmps56
  go_wp2_with fail
  refine (rup_at w p r h 64 (by omega)).mono ?_
  rintro e w1 ⟨rfl, hR1, hO1⟩
  have HU := Lib.hid (show r.up 64 = ((r.up 64).1, (r.up 64).2) from rfl)
  have hn64 : (r.up 64).1 ≤ 64 := Pk.up_fst
  have hS : Pk.rdSs r = (if (Pk.rdSn (r.up 64).1 (r.up 64).2).2.bad = true then [] else (Pk.rdSn (r.up 64).1 (r.up 64).2).1, (Pk.rdSn (r.up 64).1 (r.up 64).2).2) := rfl
  have HS := Lib.hid hS
  clear hS HU
  generalize (r.up 64).1 = n at HS hn64 ⊢
  generalize (r.up 64).2 = r1 at HS hR1
  go_wp2_with fail
  go_loopw [3, 4] (fun v3 v4 wr => ∃ (k : Nat) (l : List Pk.Stp) (q : Pk.RD) (v : Value), k ≤ n ∧ l.length = n - k ∧ v4 = .int .i64 k ∧ v = v3 ∧ RowAt stpK 38 wr w.heap.size v l ∧ ReaderAt wr p q ∧ Only (fun k => k = p) w wr ∧ RowKit.Hid (SnRest n k l q r1)) (fun _ v4 _ => (intOf v4).toNat)
  case atStart => exact ⟨n, [], r1, _, by omega, by simp, rfl, rfl, RowAt.nil _ _ _ _, hR1, hO1, Lib.hid (by unfold SnRest; simp)⟩
  case round =>
    obtain ⟨k, l, q, v, hk, hl, rfl, rfl, hrow, hR, hO, HQ⟩ := hrel
    have HL := Lib.hid hl
    have hlen : l.length ≤ 64 := by omega
    clear hl
    by_cases hk0 : 0 < k
    · obtain ⟨k', rfl⟩ : ∃ k', k = k' + 1 := ⟨k - 1, by omega⟩
      have HQ2 := Lib.hid HQ.out.step
      have hp := hR.1.lt
      have hpl := h.1.lt
      have hvp : ∀ j, v.ownBlock = some j → j ≠ p := fun j hj e => (hrow.ofT hj).ne_blk hR.1 (by decide) e
      have hw := hO.size
      go_wp2_with fail
      refine (rup_at wr p q hR 3 (by omega)).mono ?_
      rintro e w2 ⟨rfl, hR2, hO2⟩
      have hrow2 := hrow.keeps hO2 (fun j hj e => hvp j hj e)
      have hO2' := hO.trans hO2
      have HS1 : RowKit.Hid ((Pk.rdS q) = (⟨(q.up 3).1, ((q.up 3).2.text 16).1, (((q.up 3).2.text 16).2.up 9).1⟩, (((q.up 3).2.text 16).2.up 9).2)) := Lib.hid rfl
      generalize (q.up 3).1 = pt at HS1 ⊢
      generalize (q.up 3).2 = q2 at hR2 HS1
      clear hR hO2 hrow hO
      go_upto_region 6 with fail
      have hB := Blk.made w2 #[.int .i64 (pt : Int), .string ⟨#[]⟩, .int .i64 0] 38
      have hA := (Only.refl NoBlock w2).alloc (Obj.cells #[.int .i64 (pt : Int), .string ⟨#[]⟩, .int .i64 0] 38)
      have hSp : w2.heap.size ≠ p := by have := hR2.1.lt; omega
      have hSv : ∀ j, v.ownBlock = some j → j ≠ w2.heap.size := fun j hj e => by have := (hrow2.ofT hj).lt; omega
      have hSw : w.heap.size ≤ w2.heap.size := hO2'.size
      have hR3 := hR2.keeps hA (fun h => h)
      have hrow3 := hrow2.keepsN hA
      have hO3 := hO2'.trans hA.of_no
      generalize w2.alloc (Obj.cells #[.int .i64 (pt : Int), .string ⟨#[]⟩, .int .i64 0] 38) = w3 at hB hR3 hrow3 hO3 ⊢
      generalize w2.heap.size = S at hB hSp hSv hSw ⊢
      clear hR2 hrow2 hO2' hA
      go_wp2_with fail
      refine (rtext_at w3 p q2 hR3 16 (by omega)).mono ?_
      rintro e w4 ⟨rfl, hR4, hO4⟩
      have hB4 := hB.keeps hO4 hSp
      have hrow4 := hrow3.keeps hO4 (fun j hj e => hvp j hj e)
      have hO4' := hO3.trans hO4
      have c1 := hB4.cell 1
      have f1 := hB4.free 1
      simp only [List.getElem?_toArray, List.getElem?_cons_succ, List.getElem?_cons_zero] at c1
      generalize (q2.text 16).1 = nm at HS1 ⊢
      generalize (q2.text 16).2 = q4 at hR4 HS1
      clear hR3 hO4 hrow3 hO3 hB
      go_upto_region 7 with fail
      have hO5 := (Only.refl (fun k => k = S) w4).setCell (p := ⟨S, 1, none⟩) (fun _ => rfl) (.string (textOf nm))
      have hB5 : Blk (w4.setCell ⟨S, 1, none⟩ (.string (textOf nm))) S #[.int .i64 (pt : Int), .string (textOf nm), .int .i64 0] 38 := hB4.setCell 1 (.string (textOf nm))
      have hR5 := hR4.keeps hO5 (fun e => hSp e.symm)
      have hrow5 := hrow4.keeps hO5 (fun j hj e => hSv j hj e)
      have hO5' := hO4'.setCell (p := ⟨S, 1, none⟩) (fun h => by have h' : S < w.heap.size := h; omega) (.string (textOf nm))
      generalize w4.setCell ⟨S, 1, none⟩ (.string (textOf nm)) = w5 at hB5 hR5 hrow5 hO5' ⊢
      clear hB4 hR4 hrow4 hO4' hO5 c1 f1
      go_wp2_with fail
      refine (rup_at w5 p q4 hR5 9 (by omega)).mono ?_
      rintro e w6 ⟨rfl, hR6, hO6⟩
      have hB6 := hB5.keeps hO6 hSp
      have hrow6 := hrow5.keeps hO6 (fun j hj e => hvp j hj e)
      have hO6' := hO5'.trans hO6
      have c2 := hB6.cell 2
      have f2 := hB6.free 2
      simp only [List.getElem?_toArray, List.getElem?_cons_succ, List.getElem?_cons_zero] at c2
      generalize (q4.up 9).1 = bg at HS1 ⊢
      generalize (q4.up 9).2 = q6 at hR6 HS1
      clear hR5 hO6 hrow5 hO5' hB5
      go_upto_region 8 with fail
      have hO7 := (Only.refl (fun k => k = S) w6).setCell (p := ⟨S, 2, none⟩) (fun _ => rfl) (.int .i64 (bg : Int))
      have hB7 : Blk (w6.setCell ⟨S, 2, none⟩ (.int .i64 (bg : Int))) S #[.int .i64 (pt : Int), .string (textOf nm), .int .i64 (bg : Int)] 38 := hB6.setCell 2 (.int .i64 (bg : Int))
      have hR7 := hR6.keeps hO7 (fun e => hSp e.symm)
      have hrow7 := hrow6.keeps hO7 (fun j hj e => hSv j hj e)
      have hO7' := hO6'.setCell (p := ⟨S, 2, none⟩) (fun h => by have h' : S < w.heap.size := h; omega) (.int .i64 (bg : Int))
      generalize w6.setCell ⟨S, 2, none⟩ (.int .i64 (bg : Int)) = w7 at hB7 hR7 hrow7 hO7' ⊢
      clear hB6 hR6 hrow6 hO6' hO7 c2 f2
      have c0 := hB7.cell 0
      have c1 := hB7.cell 1
      have c2 := hB7.cell 2
      simp only [List.getElem?_toArray, List.getElem?_cons_succ, List.getElem?_cons_zero] at c0 c1 c2
      have hsz := hO7'.size
      go_upto_region 4 with (first
        | (at_builtin; refine wpList_append_row1 stpT _ rfl _ _ rfl w.heap.size _ l ⟨pt, nm, bg⟩ w7.heap.size 1 rfl (hrow7.keepsN ((Only.refl NoBlock _).alloc _)) rfl (made_cells stpK w7 _ _ rfl _ _ rfl) (by omega) (by simp; omega) ?_; intro v8 w8 hrow8 hg8 hv8))
      have hO8 : Only (fun k => k = p) w w8 := (hO7'.alloc _).grown hg8 (fun j hj hlt => by have := (World.ownsRow.lt hrow7 j hj).1; omega)
      have hR8 : ReaderAt w8 p q6 := (hR7.keeps ((Only.refl NoBlock w7).alloc _) (fun h => h)).keeps (Only.of_grown hg8) (fun h => hvp p h rfl)
      have HQ3 := Lib.hid HQ2.out
      have hl2 : (l ++ [(⟨pt, nm, bg⟩ : Pk.Stp)]).length = n - k' := by rw [List.length_append, HL.out]; simp; omega
      have HL2 := Lib.hid hl2
      clear hl2 hrow7 hR7 hO7' hg8 c0 c1 c2 hB7
      go_wp2_with fail
      go_roundw
      case rel => exact ⟨k', _, q6, _, by omega, HL2.out, by go_num, rfl, hrow8, hR8, hO8, Lib.hid (by have := HQ3.out; rw [HS1.out] at this; exact this)⟩
      case measure => simp [intOf]
    · obtain rfl : k = 0 := by omega
      have HE : RowKit.Hid (Pk.rdSn n r1 = (l, q)) := Lib.hid (by have := HQ.out; unfold SnRest at this; rw [this]; simp [Pk.rdSn])
      clear HQ hk0
      go_wp2_with fail
      refine (rleft_at wr p q hR).mono ?_
      rintro e w2 ⟨rfl, m, rfl⟩
      have hR2 := hR.keeps ((Only.refl NoBlock wr).drewN m) (fun h => h)
      have hrow2 := hrow.keepsN ((Only.refl NoBlock wr).drewN m)
      obtain ⟨ao, cap, rfl, hin⟩ := hrow2.read
      have hq := HS.out
      rw [HE.out] at hq
      have HQ := Lib.hid hq
      clear hq HS HE
      obtain ⟨qs, qb⟩ := q
      cases qb with
      | true =>
        go_wp2_with fail
        go_ret
        exact ⟨none, 0, by rw [HQ.out]; rfl, by rw [HQ.out]; exact RowIn.nil _, by rw [HQ.out]; exact hR2, hO.drewN m⟩
      | false =>
        go_wp2_with fail
        go_ret
        exact ⟨ao, cap, by rw [HQ.out]; rfl, by rw [HQ.out]; exact hin, by rw [HQ.out]; exact hR2, hO.drewN m⟩
end Go.Proofs.Ytogeeeigfhmpmaa

/- A struct is stored whole, cell by cell. -/
namespace Go.Proofs.Ytogeeeigfhmpmaa
open Go.RowKit
def sets (w : World) (g : Nat) : Nat → List Value → World
  | _, [] => w
  | i, v :: r => sets (w.setCell ⟨g, i, none⟩ v) g (i + 1) r
theorem sets_go {t : TypeId} : ∀ (l : List Value) (pre : List Value) (cs : List Value) (w : World) (g : Nat), cs.length = l.length → Blk w g (pre ++ cs).toArray t → Blk (sets w g pre.length l) g (pre ++ l).toArray t
  | [], pre, cs, w, g, hl, h => by
    have : cs = [] := List.length_eq_zero_iff.1 hl
    subst this
    exact h
  | v :: r, pre, cs, w, g, hl, h => by
    cases cs with
    | nil => simp at hl
    | cons c cs =>
      have h1 := h.setCell pre.length v
      have e : (pre ++ c :: cs).toArray.setIfInBounds pre.length v = ((pre ++ [v]) ++ cs).toArray := by simp
      rw [e] at h1
      have h2 := sets_go r (pre ++ [v]) cs _ g (by simpa using hl) h1
      have e2 : (pre ++ [v]).length = pre.length + 1 := by simp
      rw [e2] at h2
      have e3 : (pre ++ [v]) ++ r = pre ++ v :: r := by simp
      rw [e3] at h2
      exact h2
theorem sets_blk {t : TypeId} {w : World} {g : Nat} {cs : Array Value} (h : Blk w g cs t) (l : List Value) (hl : cs.size = l.length) : Blk (sets w g 0 l) g l.toArray t := by
  have := sets_go l [] cs.toList w g (by simpa using hl) (by simpa using h)
  simpa using this
theorem sets_only {S : Nat → Prop} {w0 w : World} {g : Nat} (h : Only S w0 w) (hg : g < w0.heap.size → S g) : ∀ (l : List Value) (i : Nat), Only S w0 (sets w g i l)
  | l, i => by
    induction l generalizing w i with
    | nil => exact h
    | cons v r ih => exact ih (h.setCell (p := ⟨g, i, none⟩) hg v) (i + 1)
end Go.Proofs.Ytogeeeigfhmpmaa

/- command.Decode: bytes are read as a command. -/
namespace Go.Proofs.Ytogeeeigfhmpmaa
open Go.RowKit
set_option maxRecDepth 100000

/-- behind the head -/
def Pk.rdT (m k : Nat) (kind a b c now : Nat) (e : Pk.RD) : Pk.Cmd × Pk.RD :=
  if kind = 2 then (⟨kind, a, b, c, (Pk.rdSs e).1, 0, false, 0, false, now⟩, (Pk.rdSs e).2)
  else if kind = 4 then (⟨kind, a, b, c, [], (e.up m).1, decide (((e.up m).2.up 1).1 = 1), (((e.up m).2.up 1).2.up k).1, decide (((((e.up m).2.up 1).2.up k).2.up 1).1 = 1), now⟩, ((((e.up m).2.up 1).2.up k).2.up 1).2)
  else (⟨kind, a, b, c, [], 0, false, 0, false, now⟩, e)
theorem Pk.rdC_T (m k : Nat) (s : List Int) : Pk.rdC m k s = Pk.rdT m k ((Pk.RD.mk s false).up 5).1 (Pk.numV ((Pk.RD.mk s false).up 5).2.s) (Pk.numV (Pk.numR ((Pk.RD.mk s false).up 5).2).s) (Pk.numV (Pk.numR (Pk.numR ((Pk.RD.mk s false).up 5).2)).s) (Pk.numV (Pk.numR (Pk.numR (Pk.numR ((Pk.RD.mk s false).up 5).2))).s) (Pk.numR (Pk.numR (Pk.numR (Pk.numR ((Pk.RD.mk s false).up 5).2)))) := rfl
def cmd0 : Value := .agg #[.int .i64 0, .int .u64 0, .int .u64 0, .int .u64 0, .slice none 0 0, .int .i64 0, .bool false, .int .i64 0, .bool false, .int .u64 0]
/-- what Decode makes of bytes -/
def DecEnd (s : ByteArray) (w : World) (e : Ending) (w' : World) : Prop :=
  Only NoBlock w w' ∧ ((∃ c ao cap, Pk.dec (nums s) = some c ∧ Smalls c.steps ∧ e = .returned (.tuple #[cmdV c ao cap, .int .i64 0]) ∧ RowIn stpK 38 w' ao c.steps) ∨ (Pk.dec (nums s) = none ∧ e = .returned (.tuple #[cmd0, .int .i64 2])))
theorem u_cmd : ∃ fs, Try.prog.underlying 31 = some (.struct fs) := ⟨_, rfl⟩
theorem size_cmd : (Try.prog.info? 31).map (·.size) = some 10 := by kernel_rfl
set_option maxHeartbeats 8000000 in
theorem decode_at (w : World) (s : ByteArray) (hs : s.size ≤ 140737488351232) :
    Calls Try.prog 26 #[.string s] w (DecEnd s w) := by
  have HD := Lib.hid (show Pk.dec (nums s) = (if (Pk.rdC 64 9 (nums s)).2.done = true ∧ Pk.may (Pk.rdC 64 9 (nums s)).1 = true then some (Pk.rdC 64 9 (nums s)).1 else none) from rfl)
  have HS := Lib.hid (Pk.rdC_T 64 9 (nums s))
  obtain ⟨fs, hfs⟩ := u_cmd
  have HFS := Lib.hid hfs
  clear hfs
  go_enter Try.func26, Try.ntmps26
  go_upto_region 1 with fail
  have hG := Blk.made w #[.int .i64 0, .int .u64 0, .int .u64 0, .int .u64 0, .slice none 0 0, .int .i64 0, .bool false, .int .i64 0, .bool false, .int .u64 0] 31
  have hO := (Only.refl NoBlock w).alloc (Obj.cells #[.int .i64 0, .int .u64 0, .int .u64 0, .int .u64 0, .slice none 0 0, .int .i64 0, .bool false, .int .i64 0, .bool false, .int .u64 0] 31)
  have hz : (w.alloc (Obj.cells #[.int .i64 0, .int .u64 0, .int .u64 0, .int .u64 0, .slice none 0 0, .int .i64 0, .bool false, .int .i64 0, .bool false, .int .u64 0] 31)).heap.size = w.heap.size + 1 := by simp
  generalize w.alloc (Obj.cells #[.int .i64 0, .int .u64 0, .int .u64 0, .int .u64 0, .slice none 0 0, .int .i64 0, .bool false, .int .i64 0, .bool false, .int .u64 0] 31) = wa at hG hO hz ⊢
  generalize hGe : w.heap.size = G at hG hz ⊢
  have hG0 : w.heap.size ≤ G := by omega
  go_wp2_with fail
  refine (rfrom_at wa s hs).mono ?_
  rintro e wb ⟨rfl, hR, hO1⟩
  have hG := hG.keeps hO1 (fun h => h)
  have hO := hO.trans hO1
  have hGp : G ≠ wa.heap.size := by omega
  have hp0 : w.heap.size ≤ wa.heap.size := by omega
  generalize wa.heap.size = p at hR hGp hp0 ⊢
  generalize hq0 : (Pk.RD.mk (nums s) false) = q0 at hR HS
  have HZ := Lib.hid hGe
  clear hO1 hz hGe hq0

  go_wp2_with fail
  refine (rup_at wb p q0 hR 5 (by omega)).mono ?_
  rintro e w1 ⟨rfl, hR1, hO1⟩
  have hk5 : (q0.up 5).1 ≤ 5 := Pk.up_fst
  generalize (q0.up 5).1 = kd at hk5 HS ⊢
  generalize (q0.up 5).2 = q1 at hR1 HS
  have hG1 := hG.keeps hO1 (fun e => hGp e)
  have hO1' := hO.andThen hO1 (fun k hk h => by have h' : k = p := h; omega)
  clear hO1 hR hG hO
  go_upto_region 3 with fail
  have hB := Blk.made w1 #[.int .i64 (kd : Int), .int .u64 0, .int .u64 0, .int .u64 0, .slice none 0 0, .int .i64 0, .bool false, .int .i64 0, .bool false, .int .u64 0] 31
  have hA := (Only.refl NoBlock w1).alloc (Obj.cells #[.int .i64 (kd : Int), .int .u64 0, .int .u64 0, .int .u64 0, .slice none 0 0, .int .i64 0, .bool false, .int .i64 0, .bool false, .int .u64 0] 31)
  have hSp : w1.heap.size ≠ p := by have := hR1.1.lt; omega
  have hSG : w1.heap.size ≠ G := by have := hG1.lt; omega
  have hS0 : w.heap.size ≤ w1.heap.size := hO1'.size
  have hR2 := hR1.keeps hA (fun h => h)
  have hG2 := hG1.keeps hA (fun h => h)
  have hO2 := hO1'.trans hA
  generalize w1.alloc (Obj.cells #[.int .i64 (kd : Int), .int .u64 0, .int .u64 0, .int .u64 0, .slice none 0 0, .int .i64 0, .bool false, .int .i64 0, .bool false, .int .u64 0] 31) = w2 at hB hR2 hG2 hO2 ⊢
  generalize w1.heap.size = S at hB hSp hSG hS0 ⊢
  clear hR1 hG1 hO1' hA
  go_wp2_with fail
  refine (rnum_at w2 p q1 hR2).mono ?_
  rintro e w3 ⟨rfl, hR3, hO3⟩
  have hva := Pk.numV_lt hR2.2.1
  generalize Pk.numV q1.s = a at hva HS ⊢
  generalize Pk.numR q1 = q2 at hR3 HS
  have hB3 := hB.keeps hO3 hSp
  have hG3 := hG2.keeps hO3 hGp
  have hX3 := hO2.andThen hO3 (fun k hk h => by have h' : k = p := h; omega)
  have c1 := hB3.cell 1
  have f1 := hB3.free 1
  simp only [List.getElem?_toArray, List.getElem?_cons_succ, List.getElem?_cons_zero] at c1
  clear hR2 hO2 hG2 hB hO3
  go_upto_region 4 with fail
  have hY := (Only.refl (fun k => k = S) w3).setCell (p := ⟨S, 1, none⟩) (fun _ => rfl) (.int .u64 (a : Int))
  have hB4 : Blk (w3.setCell ⟨S, 1, none⟩ (.int .u64 (a : Int))) S #[.int .i64 (kd : Int), .int .u64 (a : Int), .int .u64 0, .int .u64 0, .slice none 0 0, .int .i64 0, .bool false, .int .i64 0, .bool false, .int .u64 0] 31 := hB3.setCell 1 (.int .u64 (a : Int))
  have hR4 := hR3.keeps hY (fun e => hSp e.symm)
  have hG4 := hG3.keeps hY (fun e => hSG e.symm)
  have hO4 := hX3.setCell (p := ⟨S, 1, none⟩) (fun h => by have h' : S < w.heap.size := h; omega) (.int .u64 (a : Int))
  generalize w3.setCell ⟨S, 1, none⟩ (.int .u64 (a : Int)) = w4 at hB4 hR4 hG4 hO4 ⊢
  clear hR3 hG3 hX3 hB3 hY c1 f1
  go_wp2_with fail
  refine (rnum_at w4 p q2 hR4).mono ?_
  rintro e w5 ⟨rfl, hR5, hO5⟩
  have hvb := Pk.numV_lt hR4.2.1
  generalize Pk.numV q2.s = b at hvb HS ⊢
  generalize Pk.numR q2 = q3 at hR5 HS
  have hB5 := hB4.keeps hO5 hSp
  have hG5 := hG4.keeps hO5 hGp
  have hX5 := hO4.andThen hO5 (fun k hk h => by have h' : k = p := h; omega)
  have c2 := hB5.cell 2
  have f2 := hB5.free 2
  simp only [List.getElem?_toArray, List.getElem?_cons_succ, List.getElem?_cons_zero] at c2
  clear hR4 hO4 hG4 hB4 hO5
  go_upto_region 5 with fail
  have hY := (Only.refl (fun k => k = S) w5).setCell (p := ⟨S, 2, none⟩) (fun _ => rfl) (.int .u64 (b : Int))
  have hB6 : Blk (w5.setCell ⟨S, 2, none⟩ (.int .u64 (b : Int))) S #[.int .i64 (kd : Int), .int .u64 (a : Int), .int .u64 (b : Int), .int .u64 0, .slice none 0 0, .int .i64 0, .bool false, .int .i64 0, .bool false, .int .u64 0] 31 := hB5.setCell 2 (.int .u64 (b : Int))
  have hR6 := hR5.keeps hY (fun e => hSp e.symm)
  have hG6 := hG5.keeps hY (fun e => hSG e.symm)
  have hO6 := hX5.setCell (p := ⟨S, 2, none⟩) (fun h => by have h' : S < w.heap.size := h; omega) (.int .u64 (b : Int))
  generalize w5.setCell ⟨S, 2, none⟩ (.int .u64 (b : Int)) = w6 at hB6 hR6 hG6 hO6 ⊢
  clear hR5 hG5 hX5 hB5 hY c2 f2
  go_wp2_with fail
  refine (rnum_at w6 p q3 hR6).mono ?_
  rintro e w7 ⟨rfl, hR7, hO7⟩
  have hvc := Pk.numV_lt hR6.2.1
  generalize Pk.numV q3.s = c at hvc HS ⊢
  generalize Pk.numR q3 = q4 at hR7 HS
  have hB7 := hB6.keeps hO7 hSp
  have hG7 := hG6.keeps hO7 hGp
  have hX7 := hO6.andThen hO7 (fun k hk h => by have h' : k = p := h; omega)
  have c3 := hB7.cell 3
  have f3 := hB7.free 3
  simp only [List.getElem?_toArray, List.getElem?_cons_succ, List.getElem?_cons_zero] at c3
  clear hR6 hO6 hG6 hB6 hO7
  go_upto_region 6 with fail
  have hY := (Only.refl (fun k => k = S) w7).setCell (p := ⟨S, 3, none⟩) (fun _ => rfl) (.int .u64 (c : Int))
  have hB8 : Blk (w7.setCell ⟨S, 3, none⟩ (.int .u64 (c : Int))) S #[.int .i64 (kd : Int), .int .u64 (a : Int), .int .u64 (b : Int), .int .u64 (c : Int), .slice none 0 0, .int .i64 0, .bool false, .int .i64 0, .bool false, .int .u64 0] 31 := hB7.setCell 3 (.int .u64 (c : Int))
  have hR8 := hR7.keeps hY (fun e => hSp e.symm)
  have hG8 := hG7.keeps hY (fun e => hSG e.symm)
  have hO8 := hX7.setCell (p := ⟨S, 3, none⟩) (fun h => by have h' : S < w.heap.size := h; omega) (.int .u64 (c : Int))
  generalize w7.setCell ⟨S, 3, none⟩ (.int .u64 (c : Int)) = w8 at hB8 hR8 hG8 hO8 ⊢
  clear hR7 hG7 hX7 hB7 hY c3 f3
  go_wp2_with fail
  refine (rnum_at w8 p q4 hR8).mono ?_
  rintro e w9 ⟨rfl, hR9, hO9⟩
  have hvnow := Pk.numV_lt hR8.2.1
  generalize Pk.numV q4.s = now at hvnow HS ⊢
  generalize Pk.numR q4 = q5 at hR9 HS
  have hB9 := hB8.keeps hO9 hSp
  have hG9 := hG8.keeps hO9 hGp
  have hX9 := hO8.andThen hO9 (fun k hk h => by have h' : k = p := h; omega)
  have c9 := hB9.cell 9
  have f9 := hB9.free 9
  simp only [List.getElem?_toArray, List.getElem?_cons_succ, List.getElem?_cons_zero] at c9
  clear hR8 hO8 hG8 hB8 hO9
  go_upto_region 7 with fail
  have hY := (Only.refl (fun k => k = S) w9).setCell (p := ⟨S, 9, none⟩) (fun _ => rfl) (.int .u64 (now : Int))
  have hB10 : Blk (w9.setCell ⟨S, 9, none⟩ (.int .u64 (now : Int))) S #[.int .i64 (kd : Int), .int .u64 (a : Int), .int .u64 (b : Int), .int .u64 (c : Int), .slice none 0 0, .int .i64 0, .bool false, .int .i64 0, .bool false, .int .u64 (now : Int)] 31 := hB9.setCell 9 (.int .u64 (now : Int))
  have hR10 := hR9.keeps hY (fun e => hSp e.symm)
  have hG10 := hG9.keeps hY (fun e => hSG e.symm)
  have hO10 := hX9.setCell (p := ⟨S, 9, none⟩) (fun h => by have h' : S < w.heap.size := h; omega) (.int .u64 (now : Int))
  generalize w9.setCell ⟨S, 9, none⟩ (.int .u64 (now : Int)) = w10 at hB10 hR10 hG10 hO10 ⊢
  clear hR9 hG9 hX9 hB9 hY c9 f9
  have c0 := hB10.cell 0
  simp only [List.getElem?_toArray, List.getElem?_cons_zero] at c0
  by_cases k2 : kd = 2
  · subst k2
    have ht := HS.out
    unfold Pk.rdT at ht
    rw [if_pos rfl] at ht
    have HS2 := Lib.hid ht
    clear ht HS hk5
    have HS := HS2
    clear HS2
    have d2 : (((2 : Nat) : Int) == 2) = true := rfl
    go_wp2_with fail
    refine (planread_at w10 p q5 hR10).mono ?_
    rintro e w11 ⟨ao, cap, rfl, hrow, hR11, hO11⟩
    have hsm := rdSs_small q5
    generalize (Pk.rdSs q5).1 = l at hrow hsm HS ⊢
    generalize (Pk.rdSs q5).2 = q6 at hR11 HS
    have hB11 := hB10.keeps hO11 hSp
    have hG11 := hG10.keeps hO11 hGp
    have hX11 := hO10.andThen hO11 (fun k hk h => by have h' : k = p := h; omega)
    have c4 := hB11.cell 4
    have f4 := hB11.free 4
    simp only [List.getElem?_toArray, List.getElem?_cons_succ, List.getElem?_cons_zero] at c4
    clear hR10 hO10 hG10 hB10 hO11
    go_upto_region 15 with fail
    have hY := (Only.refl (fun k => k = S) w11).setCell (p := ⟨S, 4, none⟩) (fun _ => rfl) (.slice ao l.length cap)
    have hB12 : Blk (w11.setCell ⟨S, 4, none⟩ (.slice ao l.length cap)) S #[.int .i64 ((2 : Nat) : Int), .int .u64 (a : Int), .int .u64 (b : Int), .int .u64 (c : Int), .slice ao l.length cap, .int .i64 0, .bool false, .int .i64 0, .bool false, .int .u64 (now : Int)] 31 := hB11.setCell 4 (.slice ao l.length cap)
    have hR12 := hR11.keeps hY (fun e => hSp e.symm)
    have hG12 := hG11.keeps hY (fun e => hSG e.symm)
    have hO12 := hX11.setCell (p := ⟨S, 4, none⟩) (fun h => by have h' : S < w.heap.size := h; omega) (.slice ao l.length cap)
    have hrow' := hrow.keepsT hY (fun k hk => by subst hk; exact fun ht => ht.ne_blk hB11 (by decide) rfl)
    clear hrow
    have hrow := hrow'
    clear hrow'
    generalize w11.setCell ⟨S, 4, none⟩ (.slice ao l.length cap) = w12 at hB12 hR12 hG12 hO12 hrow ⊢
    clear hR11 hG11 hX11 hB11 hY c4 f4
    have HT := HS
    clear HS c0
    go_wp2_with fail
    refine (rdone_at w12 p q6 hR12).mono ?_
    rintro e wd ⟨rfl, m, rfl⟩
    have hN := (Only.refl NoBlock w12).drewN m
    have hBd := hB12.keeps hN (fun h => h)
    have hGd := hG12.keeps hN (fun h => h)
    have hOd := hO12.trans hN
    have hrowd := (hrow).keepsN hN
    generalize w12.drewN m = wd at hBd hGd hOd hrowd ⊢
    clear hR12 hG12 hO12 hN hB12 hrow
    have c0 := hBd.cell 0
    have c1 := hBd.cell 1
    have c2 := hBd.cell 2
    have c3 := hBd.cell 3
    have c4 := hBd.cell 4
    have c5 := hBd.cell 5
    have c6 := hBd.cell 6
    have c7 := hBd.cell 7
    have c8 := hBd.cell 8
    have c9 := hBd.cell 9
    simp only [List.getElem?_toArray, List.getElem?_cons_succ, List.getElem?_cons_zero] at c0 c1 c2 c3 c4 c5 c6 c7 c8 c9
    cases hdn : q6.done with
    | false =>
      have HR : RowKit.Hid (Pk.dec (nums s) = none) := Lib.hid (by rw [HD.out, HT.out, if_neg (by simp [hdn])])
      clear hdn
      have g0 := hGd.cell 0
      have u0 := hGd.free 0
      have g1 := hGd.cell 1
      have u1 := hGd.free 1
      have g2 := hGd.cell 2
      have u2 := hGd.free 2
      have g3 := hGd.cell 3
      have u3 := hGd.free 3
      have g4 := hGd.cell 4
      have u4 := hGd.free 4
      have g5 := hGd.cell 5
      have u5 := hGd.free 5
      have g6 := hGd.cell 6
      have u6 := hGd.free 6
      have g7 := hGd.cell 7
      have u7 := hGd.free 7
      have g8 := hGd.cell 8
      have u8 := hGd.free 8
      have g9 := hGd.cell 9
      have u9 := hGd.free 9
      simp only [List.getElem?_toArray, List.getElem?_cons_succ, List.getElem?_cons_zero] at g0 g1 g2 g3 g4 g5 g6 g7 g8 g9
      go_wp2_with fail
      have hV := sets_blk hGd [.int .i64 0, .int .u64 0, .int .u64 0, .int .u64 0, .slice none 0 0, .int .i64 0, .bool false, .int .i64 0, .bool false, .int .u64 0] rfl
      have hW := sets_only hOd (fun h => by have h' : G < w.heap.size := h; omega) [.int .i64 0, .int .u64 0, .int .u64 0, .int .u64 0, .slice none 0 0, .int .i64 0, .bool false, .int .i64 0, .bool false, .int .u64 0] 0
      have hW2 := sets_only (S := fun k => k = G) (Only.refl _ wd) (fun _ => rfl) [.int .i64 0, .int .u64 0, .int .u64 0, .int .u64 0, .slice none 0 0, .int .i64 0, .bool false, .int .i64 0, .bool false, .int .u64 0] 0
      simp only [sets] at hV hW hW2
      refine bodyPost_ret (results_cell_tmp (P := Try.prog) rfl _ _ G _ _ _ _ rfl hV HFS.out rfl size_cmd) rfl ?_
      exact ⟨hW, .inr ⟨HR.out, rfl⟩⟩
    | true =>
      have HDN := Lib.hid hdn
      clear hdn
      go_wp2_with fail
      refine (maycmd_at wd ⟨2, a, b, c, l, 0, false, 0, false, now⟩ ao cap (hsm) hrowd).mono ?_
      rintro e we ⟨rfl, hOm⟩
      have hBe := hBd.keeps hOm (fun h => h)
      have hGe := hGd.keeps hOm (fun h => h)
      have hOe := hOd.trans hOm
      have hrowe := hrowd.keepsN hOm
      clear hBd hGd hOd hrowd hOm c0 c1 c2 c3 c4 c5 c6 c7 c8 c9
      have c0 := hBe.cell 0
      have c1 := hBe.cell 1
      have c2 := hBe.cell 2
      have c3 := hBe.cell 3
      have c4 := hBe.cell 4
      have c5 := hBe.cell 5
      have c6 := hBe.cell 6
      have c7 := hBe.cell 7
      have c8 := hBe.cell 8
      have c9 := hBe.cell 9
      simp only [List.getElem?_toArray, List.getElem?_cons_succ, List.getElem?_cons_zero] at c0 c1 c2 c3 c4 c5 c6 c7 c8 c9
      cases hmy : Pk.may ⟨2, a, b, c, l, 0, false, 0, false, now⟩ with
      | false =>
        have HR : RowKit.Hid (Pk.dec (nums s) = none) := Lib.hid (by rw [HD.out, HT.out, if_neg (by simp [hmy])])
        clear hmy
        have g0 := hGe.cell 0
        have u0 := hGe.free 0
        have g1 := hGe.cell 1
        have u1 := hGe.free 1
        have g2 := hGe.cell 2
        have u2 := hGe.free 2
        have g3 := hGe.cell 3
        have u3 := hGe.free 3
        have g4 := hGe.cell 4
        have u4 := hGe.free 4
        have g5 := hGe.cell 5
        have u5 := hGe.free 5
        have g6 := hGe.cell 6
        have u6 := hGe.free 6
        have g7 := hGe.cell 7
        have u7 := hGe.free 7
        have g8 := hGe.cell 8
        have u8 := hGe.free 8
        have g9 := hGe.cell 9
        have u9 := hGe.free 9
        simp only [List.getElem?_toArray, List.getElem?_cons_succ, List.getElem?_cons_zero] at g0 g1 g2 g3 g4 g5 g6 g7 g8 g9
        go_wp2_with fail
        have hV := sets_blk hGe [.int .i64 0, .int .u64 0, .int .u64 0, .int .u64 0, .slice none 0 0, .int .i64 0, .bool false, .int .i64 0, .bool false, .int .u64 0] rfl
        have hW := sets_only hOe (fun h => by have h' : G < w.heap.size := h; omega) [.int .i64 0, .int .u64 0, .int .u64 0, .int .u64 0, .slice none 0 0, .int .i64 0, .bool false, .int .i64 0, .bool false, .int .u64 0] 0
        have hW2 := sets_only (S := fun k => k = G) (Only.refl _ we) (fun _ => rfl) [.int .i64 0, .int .u64 0, .int .u64 0, .int .u64 0, .slice none 0 0, .int .i64 0, .bool false, .int .i64 0, .bool false, .int .u64 0] 0
        simp only [sets] at hV hW hW2
        refine bodyPost_ret (results_cell_tmp (P := Try.prog) rfl _ _ G _ _ _ _ rfl hV HFS.out rfl size_cmd) rfl ?_
        exact ⟨hW, .inr ⟨HR.out, rfl⟩⟩
      | true =>
        have HR : RowKit.Hid (Pk.dec (nums s) = some ⟨2, a, b, c, l, 0, false, 0, false, now⟩) := Lib.hid (by rw [HD.out, HT.out, if_pos ⟨HDN.out, hmy⟩])
        clear hmy
        have g0 := hGe.cell 0
        have u0 := hGe.free 0
        have g1 := hGe.cell 1
        have u1 := hGe.free 1
        have g2 := hGe.cell 2
        have u2 := hGe.free 2
        have g3 := hGe.cell 3
        have u3 := hGe.free 3
        have g4 := hGe.cell 4
        have u4 := hGe.free 4
        have g5 := hGe.cell 5
        have u5 := hGe.free 5
        have g6 := hGe.cell 6
        have u6 := hGe.free 6
        have g7 := hGe.cell 7
        have u7 := hGe.free 7
        have g8 := hGe.cell 8
        have u8 := hGe.free 8
        have g9 := hGe.cell 9
        have u9 := hGe.free 9
        simp only [List.getElem?_toArray, List.getElem?_cons_succ, List.getElem?_cons_zero] at g0 g1 g2 g3 g4 g5 g6 g7 g8 g9
        go_wp2_with fail
        have hV := sets_blk hGe [.int .i64 ((2 : Nat) : Int), .int .u64 (a : Int), .int .u64 (b : Int), .int .u64 (c : Int), .slice ao l.length cap, .int .i64 0, .bool false, .int .i64 0, .bool false, .int .u64 (now : Int)] rfl
        have hW := sets_only hOe (fun h => by have h' : G < w.heap.size := h; omega) [.int .i64 ((2 : Nat) : Int), .int .u64 (a : Int), .int .u64 (b : Int), .int .u64 (c : Int), .slice ao l.length cap, .int .i64 0, .bool false, .int .i64 0, .bool false, .int .u64 (now : Int)] 0
        have hW2 := sets_only (S := fun k => k = G) (Only.refl _ we) (fun _ => rfl) [.int .i64 ((2 : Nat) : Int), .int .u64 (a : Int), .int .u64 (b : Int), .int .u64 (c : Int), .slice ao l.length cap, .int .i64 0, .bool false, .int .i64 0, .bool false, .int .u64 (now : Int)] 0
        simp only [sets] at hV hW hW2
        refine bodyPost_ret (results_cell_tmp (P := Try.prog) rfl _ _ G _ _ _ _ rfl hV HFS.out rfl size_cmd) rfl ?_
        exact ⟨hW, .inl ⟨⟨2, a, b, c, l, 0, false, 0, false, now⟩, ao, cap, HR.out, hsm, rfl, hrowe.keepsT hW2 (fun k hk => by subst hk; exact fun ht => ht.ne_blk hGe (by decide) rfl)⟩⟩
  by_cases k4 : kd = 4
  · subst k4
    have ht := HS.out
    unfold Pk.rdT at ht
    rw [if_neg (by decide), if_pos rfl] at ht
    have HS2 := Lib.hid ht
    clear ht HS hk5 k2
    have HS := HS2
    clear HS2
    go_wp2_with fail
    refine (rup_at w10 p q5 hR10 64 (by omega)).mono ?_
    rintro e w11 ⟨rfl, hR11, hO11⟩
    have hvst : (q5.up 64).1 ≤ 64 := Pk.up_fst
    generalize (q5.up 64).1 = st at hvst HS ⊢
    generalize (q5.up 64).2 = q6 at hR11 HS
    have hB11 := hB10.keeps hO11 hSp
    have hG11 := hG10.keeps hO11 hGp
    have hX11 := hO10.andThen hO11 (fun k hk h => by have h' : k = p := h; omega)
    have c5 := hB11.cell 5
    have f5 := hB11.free 5
    simp only [List.getElem?_toArray, List.getElem?_cons_succ, List.getElem?_cons_zero] at c5
    clear hR10 hO10 hG10 hB10 hO11
    go_upto_region 12 with fail
    have hY := (Only.refl (fun k => k = S) w11).setCell (p := ⟨S, 5, none⟩) (fun _ => rfl) (.int .i64 (st : Int))
    have hB12 : Blk (w11.setCell ⟨S, 5, none⟩ (.int .i64 (st : Int))) S #[.int .i64 ((4 : Nat) : Int), .int .u64 (a : Int), .int .u64 (b : Int), .int .u64 (c : Int), .slice none 0 0, .int .i64 (st : Int), .bool false, .int .i64 0, .bool false, .int .u64 (now : Int)] 31 := hB11.setCell 5 (.int .i64 (st : Int))
    have hR12 := hR11.keeps hY (fun e => hSp e.symm)
    have hG12 := hG11.keeps hY (fun e => hSG e.symm)
    have hO12 := hX11.setCell (p := ⟨S, 5, none⟩) (fun h => by have h' : S < w.heap.size := h; omega) (.int .i64 (st : Int))
    generalize w11.setCell ⟨S, 5, none⟩ (.int .i64 (st : Int)) = w12 at hB12 hR12 hG12 hO12 ⊢
    clear hR11 hG11 hX11 hB11 hY c5 f5
    go_wp2_with fail
    refine (rbool_at w12 p q6 hR12).mono ?_
    rintro e w13 ⟨rfl, hR13, hO13⟩
    generalize decide ((q6.up 1).1 = 1) = bk at HS ⊢
    generalize (q6.up 1).2 = q7 at hR13 HS
    have hB13 := hB12.keeps hO13 hSp
    have hG13 := hG12.keeps hO13 hGp
    have hX13 := hO12.andThen hO13 (fun k hk h => by have h' : k = p := h; omega)
    have c6 := hB13.cell 6
    have f6 := hB13.free 6
    simp only [List.getElem?_toArray, List.getElem?_cons_succ, List.getElem?_cons_zero] at c6
    clear hR12 hO12 hG12 hB12 hO13
    go_upto_region 13 with fail
    have hY := (Only.refl (fun k => k = S) w13).setCell (p := ⟨S, 6, none⟩) (fun _ => rfl) (.bool bk)
    have hB14 : Blk (w13.setCell ⟨S, 6, none⟩ (.bool bk)) S #[.int .i64 ((4 : Nat) : Int), .int .u64 (a : Int), .int .u64 (b : Int), .int .u64 (c : Int), .slice none 0 0, .int .i64 (st : Int), .bool bk, .int .i64 0, .bool false, .int .u64 (now : Int)] 31 := hB13.setCell 6 (.bool bk)
    have hR14 := hR13.keeps hY (fun e => hSp e.symm)
    have hG14 := hG13.keeps hY (fun e => hSG e.symm)
    have hO14 := hX13.setCell (p := ⟨S, 6, none⟩) (fun h => by have h' : S < w.heap.size := h; omega) (.bool bk)
    generalize w13.setCell ⟨S, 6, none⟩ (.bool bk) = w14 at hB14 hR14 hG14 hO14 ⊢
    clear hR13 hG13 hX13 hB13 hY c6 f6
    go_wp2_with fail
    refine (rup_at w14 p q7 hR14 9 (by omega)).mono ?_
    rintro e w15 ⟨rfl, hR15, hO15⟩
    have hvtr : (q7.up 9).1 ≤ 9 := Pk.up_fst
    generalize (q7.up 9).1 = tr at hvtr HS ⊢
    generalize (q7.up 9).2 = q8 at hR15 HS
    have hB15 := hB14.keeps hO15 hSp
    have hG15 := hG14.keeps hO15 hGp
    have hX15 := hO14.andThen hO15 (fun k hk h => by have h' : k = p := h; omega)
    have c7 := hB15.cell 7
    have f7 := hB15.free 7
    simp only [List.getElem?_toArray, List.getElem?_cons_succ, List.getElem?_cons_zero] at c7
    clear hR14 hO14 hG14 hB14 hO15
    go_upto_region 14 with fail
    have hY := (Only.refl (fun k => k = S) w15).setCell (p := ⟨S, 7, none⟩) (fun _ => rfl) (.int .i64 (tr : Int))
    have hB16 : Blk (w15.setCell ⟨S, 7, none⟩ (.int .i64 (tr : Int))) S #[.int .i64 ((4 : Nat) : Int), .int .u64 (a : Int), .int .u64 (b : Int), .int .u64 (c : Int), .slice none 0 0, .int .i64 (st : Int), .bool bk, .int .i64 (tr : Int), .bool false, .int .u64 (now : Int)] 31 := hB15.setCell 7 (.int .i64 (tr : Int))
    have hR16 := hR15.keeps hY (fun e => hSp e.symm)
    have hG16 := hG15.keeps hY (fun e => hSG e.symm)
    have hO16 := hX15.setCell (p := ⟨S, 7, none⟩) (fun h => by have h' : S < w.heap.size := h; omega) (.int .i64 (tr : Int))
    generalize w15.setCell ⟨S, 7, none⟩ (.int .i64 (tr : Int)) = w16 at hB16 hR16 hG16 hO16 ⊢
    clear hR15 hG15 hX15 hB15 hY c7 f7
    go_wp2_with fail
    refine (rbool_at w16 p q8 hR16).mono ?_
    rintro e w17 ⟨rfl, hR17, hO17⟩
    generalize decide ((q8.up 1).1 = 1) = ok at HS ⊢
    generalize (q8.up 1).2 = q9 at hR17 HS
    have hB17 := hB16.keeps hO17 hSp
    have hG17 := hG16.keeps hO17 hGp
    have hX17 := hO16.andThen hO17 (fun k hk h => by have h' : k = p := h; omega)
    have c8 := hB17.cell 8
    have f8 := hB17.free 8
    simp only [List.getElem?_toArray, List.getElem?_cons_succ, List.getElem?_cons_zero] at c8
    clear hR16 hO16 hG16 hB16 hO17
    go_upto_region 15 with fail
    have hY := (Only.refl (fun k => k = S) w17).setCell (p := ⟨S, 8, none⟩) (fun _ => rfl) (.bool ok)
    have hB18 : Blk (w17.setCell ⟨S, 8, none⟩ (.bool ok)) S #[.int .i64 ((4 : Nat) : Int), .int .u64 (a : Int), .int .u64 (b : Int), .int .u64 (c : Int), .slice none 0 0, .int .i64 (st : Int), .bool bk, .int .i64 (tr : Int), .bool ok, .int .u64 (now : Int)] 31 := hB17.setCell 8 (.bool ok)
    have hR18 := hR17.keeps hY (fun e => hSp e.symm)
    have hG18 := hG17.keeps hY (fun e => hSG e.symm)
    have hO18 := hX17.setCell (p := ⟨S, 8, none⟩) (fun h => by have h' : S < w.heap.size := h; omega) (.bool ok)
    generalize w17.setCell ⟨S, 8, none⟩ (.bool ok) = w18 at hB18 hR18 hG18 hO18 ⊢
    clear hR17 hG17 hX17 hB17 hY c8 f8
    have HT := HS
    clear HS c0
    go_wp2_with fail
    refine (rdone_at w18 p q9 hR18).mono ?_
    rintro e wd ⟨rfl, m, rfl⟩
    have hN := (Only.refl NoBlock w18).drewN m
    have hBd := hB18.keeps hN (fun h => h)
    have hGd := hG18.keeps hN (fun h => h)
    have hOd := hO18.trans hN
    have hrowd := (RowIn.nil (K := stpK) (E := 38) w18).keepsN hN
    generalize w18.drewN m = wd at hBd hGd hOd hrowd ⊢
    clear hR18 hG18 hO18 hN hB18
    have c0 := hBd.cell 0
    have c1 := hBd.cell 1
    have c2 := hBd.cell 2
    have c3 := hBd.cell 3
    have c4 := hBd.cell 4
    have c5 := hBd.cell 5
    have c6 := hBd.cell 6
    have c7 := hBd.cell 7
    have c8 := hBd.cell 8
    have c9 := hBd.cell 9
    simp only [List.getElem?_toArray, List.getElem?_cons_succ, List.getElem?_cons_zero] at c0 c1 c2 c3 c4 c5 c6 c7 c8 c9
    cases hdn : q9.done with
    | false =>
      have HR : RowKit.Hid (Pk.dec (nums s) = none) := Lib.hid (by rw [HD.out, HT.out, if_neg (by simp [hdn])])
      clear hdn
      have g0 := hGd.cell 0
      have u0 := hGd.free 0
      have g1 := hGd.cell 1
      have u1 := hGd.free 1
      have g2 := hGd.cell 2
      have u2 := hGd.free 2
      have g3 := hGd.cell 3
      have u3 := hGd.free 3
      have g4 := hGd.cell 4
      have u4 := hGd.free 4
      have g5 := hGd.cell 5
      have u5 := hGd.free 5
      have g6 := hGd.cell 6
      have u6 := hGd.free 6
      have g7 := hGd.cell 7
      have u7 := hGd.free 7
      have g8 := hGd.cell 8
      have u8 := hGd.free 8
      have g9 := hGd.cell 9
      have u9 := hGd.free 9
      simp only [List.getElem?_toArray, List.getElem?_cons_succ, List.getElem?_cons_zero] at g0 g1 g2 g3 g4 g5 g6 g7 g8 g9
      go_wp2_with fail
      have hV := sets_blk hGd [.int .i64 0, .int .u64 0, .int .u64 0, .int .u64 0, .slice none 0 0, .int .i64 0, .bool false, .int .i64 0, .bool false, .int .u64 0] rfl
      have hW := sets_only hOd (fun h => by have h' : G < w.heap.size := h; omega) [.int .i64 0, .int .u64 0, .int .u64 0, .int .u64 0, .slice none 0 0, .int .i64 0, .bool false, .int .i64 0, .bool false, .int .u64 0] 0
      have hW2 := sets_only (S := fun k => k = G) (Only.refl _ wd) (fun _ => rfl) [.int .i64 0, .int .u64 0, .int .u64 0, .int .u64 0, .slice none 0 0, .int .i64 0, .bool false, .int .i64 0, .bool false, .int .u64 0] 0
      simp only [sets] at hV hW hW2
      refine bodyPost_ret (results_cell_tmp (P := Try.prog) rfl _ _ G _ _ _ _ rfl hV HFS.out rfl size_cmd) rfl ?_
      exact ⟨hW, .inr ⟨HR.out, rfl⟩⟩
    | true =>
      have HDN := Lib.hid hdn
      clear hdn
      go_wp2_with fail
      refine (maycmd_at wd ⟨4, a, b, c, [], st, bk, tr, ok, now⟩ none 0 (⟨by simp, by simp⟩) hrowd).mono ?_
      rintro e we ⟨rfl, hOm⟩
      have hBe := hBd.keeps hOm (fun h => h)
      have hGe := hGd.keeps hOm (fun h => h)
      have hOe := hOd.trans hOm
      have hrowe := hrowd.keepsN hOm
      clear hBd hGd hOd hrowd hOm c0 c1 c2 c3 c4 c5 c6 c7 c8 c9
      have c0 := hBe.cell 0
      have c1 := hBe.cell 1
      have c2 := hBe.cell 2
      have c3 := hBe.cell 3
      have c4 := hBe.cell 4
      have c5 := hBe.cell 5
      have c6 := hBe.cell 6
      have c7 := hBe.cell 7
      have c8 := hBe.cell 8
      have c9 := hBe.cell 9
      simp only [List.getElem?_toArray, List.getElem?_cons_succ, List.getElem?_cons_zero] at c0 c1 c2 c3 c4 c5 c6 c7 c8 c9
      cases hmy : Pk.may ⟨4, a, b, c, [], st, bk, tr, ok, now⟩ with
      | false =>
        have HR : RowKit.Hid (Pk.dec (nums s) = none) := Lib.hid (by rw [HD.out, HT.out, if_neg (by simp [hmy])])
        clear hmy
        have g0 := hGe.cell 0
        have u0 := hGe.free 0
        have g1 := hGe.cell 1
        have u1 := hGe.free 1
        have g2 := hGe.cell 2
        have u2 := hGe.free 2
        have g3 := hGe.cell 3
        have u3 := hGe.free 3
        have g4 := hGe.cell 4
        have u4 := hGe.free 4
        have g5 := hGe.cell 5
        have u5 := hGe.free 5
        have g6 := hGe.cell 6
        have u6 := hGe.free 6
        have g7 := hGe.cell 7
        have u7 := hGe.free 7
        have g8 := hGe.cell 8
        have u8 := hGe.free 8
        have g9 := hGe.cell 9
        have u9 := hGe.free 9
        simp only [List.getElem?_toArray, List.getElem?_cons_succ, List.getElem?_cons_zero] at g0 g1 g2 g3 g4 g5 g6 g7 g8 g9
        go_wp2_with fail
        have hV := sets_blk hGe [.int .i64 0, .int .u64 0, .int .u64 0, .int .u64 0, .slice none 0 0, .int .i64 0, .bool false, .int .i64 0, .bool false, .int .u64 0] rfl
        have hW := sets_only hOe (fun h => by have h' : G < w.heap.size := h; omega) [.int .i64 0, .int .u64 0, .int .u64 0, .int .u64 0, .slice none 0 0, .int .i64 0, .bool false, .int .i64 0, .bool false, .int .u64 0] 0
        have hW2 := sets_only (S := fun k => k = G) (Only.refl _ we) (fun _ => rfl) [.int .i64 0, .int .u64 0, .int .u64 0, .int .u64 0, .slice none 0 0, .int .i64 0, .bool false, .int .i64 0, .bool false, .int .u64 0] 0
        simp only [sets] at hV hW hW2
        refine bodyPost_ret (results_cell_tmp (P := Try.prog) rfl _ _ G _ _ _ _ rfl hV HFS.out rfl size_cmd) rfl ?_
        exact ⟨hW, .inr ⟨HR.out, rfl⟩⟩
      | true =>
        have HR : RowKit.Hid (Pk.dec (nums s) = some ⟨4, a, b, c, [], st, bk, tr, ok, now⟩) := Lib.hid (by rw [HD.out, HT.out, if_pos ⟨HDN.out, hmy⟩])
        clear hmy
        have g0 := hGe.cell 0
        have u0 := hGe.free 0
        have g1 := hGe.cell 1
        have u1 := hGe.free 1
        have g2 := hGe.cell 2
        have u2 := hGe.free 2
        have g3 := hGe.cell 3
        have u3 := hGe.free 3
        have g4 := hGe.cell 4
        have u4 := hGe.free 4
        have g5 := hGe.cell 5
        have u5 := hGe.free 5
        have g6 := hGe.cell 6
        have u6 := hGe.free 6
        have g7 := hGe.cell 7
        have u7 := hGe.free 7
        have g8 := hGe.cell 8
        have u8 := hGe.free 8
        have g9 := hGe.cell 9
        have u9 := hGe.free 9
        simp only [List.getElem?_toArray, List.getElem?_cons_succ, List.getElem?_cons_zero] at g0 g1 g2 g3 g4 g5 g6 g7 g8 g9
        go_wp2_with fail
        have hV := sets_blk hGe [.int .i64 ((4 : Nat) : Int), .int .u64 (a : Int), .int .u64 (b : Int), .int .u64 (c : Int), .slice none 0 0, .int .i64 (st : Int), .bool bk, .int .i64 (tr : Int), .bool ok, .int .u64 (now : Int)] rfl
        have hW := sets_only hOe (fun h => by have h' : G < w.heap.size := h; omega) [.int .i64 ((4 : Nat) : Int), .int .u64 (a : Int), .int .u64 (b : Int), .int .u64 (c : Int), .slice none 0 0, .int .i64 (st : Int), .bool bk, .int .i64 (tr : Int), .bool ok, .int .u64 (now : Int)] 0
        have hW2 := sets_only (S := fun k => k = G) (Only.refl _ we) (fun _ => rfl) [.int .i64 ((4 : Nat) : Int), .int .u64 (a : Int), .int .u64 (b : Int), .int .u64 (c : Int), .slice none 0 0, .int .i64 (st : Int), .bool bk, .int .i64 (tr : Int), .bool ok, .int .u64 (now : Int)] 0
        simp only [sets] at hV hW hW2
        refine bodyPost_ret (results_cell_tmp (P := Try.prog) rfl _ _ G _ _ _ _ rfl hV HFS.out rfl size_cmd) rfl ?_
        exact ⟨hW, .inl ⟨⟨4, a, b, c, [], st, bk, tr, ok, now⟩, none, 0, HR.out, ⟨by simp, by simp⟩, rfl, hrowe.keepsT hW2 (fun k hk => by subst hk; exact fun ht => ht.ne_blk hGe (by decide) rfl)⟩⟩
  have ht := HS.out
  unfold Pk.rdT at ht
  rw [if_neg k2, if_neg k4] at ht
  have HT := Lib.hid ht
  clear ht HS
  have d2 : ((kd : Int) == 2) = false := by simp; omega
  have d4 : ((kd : Int) == 4) = false := by simp; omega
  clear k2 k4 hk5
  go_upto_region 15 with fail
  clear c0 d2 d4
  go_wp2_with fail
  refine (rdone_at w10 p q5 hR10).mono ?_
  rintro e wd ⟨rfl, m, rfl⟩
  have hN := (Only.refl NoBlock w10).drewN m
  have hBd := hB10.keeps hN (fun h => h)
  have hGd := hG10.keeps hN (fun h => h)
  have hOd := hO10.trans hN
  have hrowd := (RowIn.nil (K := stpK) (E := 38) w10).keepsN hN
  generalize w10.drewN m = wd at hBd hGd hOd hrowd ⊢
  clear hR10 hG10 hO10 hN hB10
  have c0 := hBd.cell 0
  have c1 := hBd.cell 1
  have c2 := hBd.cell 2
  have c3 := hBd.cell 3
  have c4 := hBd.cell 4
  have c5 := hBd.cell 5
  have c6 := hBd.cell 6
  have c7 := hBd.cell 7
  have c8 := hBd.cell 8
  have c9 := hBd.cell 9
  simp only [List.getElem?_toArray, List.getElem?_cons_succ, List.getElem?_cons_zero] at c0 c1 c2 c3 c4 c5 c6 c7 c8 c9
  cases hdn : q5.done with
  | false =>
    have HR : RowKit.Hid (Pk.dec (nums s) = none) := Lib.hid (by rw [HD.out, HT.out, if_neg (by simp [hdn])])
    clear hdn
    have g0 := hGd.cell 0
    have u0 := hGd.free 0
    have g1 := hGd.cell 1
    have u1 := hGd.free 1
    have g2 := hGd.cell 2
    have u2 := hGd.free 2
    have g3 := hGd.cell 3
    have u3 := hGd.free 3
    have g4 := hGd.cell 4
    have u4 := hGd.free 4
    have g5 := hGd.cell 5
    have u5 := hGd.free 5
    have g6 := hGd.cell 6
    have u6 := hGd.free 6
    have g7 := hGd.cell 7
    have u7 := hGd.free 7
    have g8 := hGd.cell 8
    have u8 := hGd.free 8
    have g9 := hGd.cell 9
    have u9 := hGd.free 9
    simp only [List.getElem?_toArray, List.getElem?_cons_succ, List.getElem?_cons_zero] at g0 g1 g2 g3 g4 g5 g6 g7 g8 g9
    go_wp2_with fail
    have hV := sets_blk hGd [.int .i64 0, .int .u64 0, .int .u64 0, .int .u64 0, .slice none 0 0, .int .i64 0, .bool false, .int .i64 0, .bool false, .int .u64 0] rfl
    have hW := sets_only hOd (fun h => by have h' : G < w.heap.size := h; omega) [.int .i64 0, .int .u64 0, .int .u64 0, .int .u64 0, .slice none 0 0, .int .i64 0, .bool false, .int .i64 0, .bool false, .int .u64 0] 0
    have hW2 := sets_only (S := fun k => k = G) (Only.refl _ wd) (fun _ => rfl) [.int .i64 0, .int .u64 0, .int .u64 0, .int .u64 0, .slice none 0 0, .int .i64 0, .bool false, .int .i64 0, .bool false, .int .u64 0] 0
    simp only [sets] at hV hW hW2
    refine bodyPost_ret (results_cell_tmp (P := Try.prog) rfl _ _ G _ _ _ _ rfl hV HFS.out rfl size_cmd) rfl ?_
    exact ⟨hW, .inr ⟨HR.out, rfl⟩⟩
  | true =>
    have HDN := Lib.hid hdn
    clear hdn
    go_wp2_with fail
    refine (maycmd_at wd ⟨kd, a, b, c, [], 0, false, 0, false, now⟩ none 0 (⟨by simp, by simp⟩) hrowd).mono ?_
    rintro e we ⟨rfl, hOm⟩
    have hBe := hBd.keeps hOm (fun h => h)
    have hGe := hGd.keeps hOm (fun h => h)
    have hOe := hOd.trans hOm
    have hrowe := hrowd.keepsN hOm
    clear hBd hGd hOd hrowd hOm c0 c1 c2 c3 c4 c5 c6 c7 c8 c9
    have c0 := hBe.cell 0
    have c1 := hBe.cell 1
    have c2 := hBe.cell 2
    have c3 := hBe.cell 3
    have c4 := hBe.cell 4
    have c5 := hBe.cell 5
    have c6 := hBe.cell 6
    have c7 := hBe.cell 7
    have c8 := hBe.cell 8
    have c9 := hBe.cell 9
    simp only [List.getElem?_toArray, List.getElem?_cons_succ, List.getElem?_cons_zero] at c0 c1 c2 c3 c4 c5 c6 c7 c8 c9
    cases hmy : Pk.may ⟨kd, a, b, c, [], 0, false, 0, false, now⟩ with
    | false =>
      have HR : RowKit.Hid (Pk.dec (nums s) = none) := Lib.hid (by rw [HD.out, HT.out, if_neg (by simp [hmy])])
      clear hmy
      have g0 := hGe.cell 0
      have u0 := hGe.free 0
      have g1 := hGe.cell 1
      have u1 := hGe.free 1
      have g2 := hGe.cell 2
      have u2 := hGe.free 2
      have g3 := hGe.cell 3
      have u3 := hGe.free 3
      have g4 := hGe.cell 4
      have u4 := hGe.free 4
      have g5 := hGe.cell 5
      have u5 := hGe.free 5
      have g6 := hGe.cell 6
      have u6 := hGe.free 6
      have g7 := hGe.cell 7
      have u7 := hGe.free 7
      have g8 := hGe.cell 8
      have u8 := hGe.free 8
      have g9 := hGe.cell 9
      have u9 := hGe.free 9
      simp only [List.getElem?_toArray, List.getElem?_cons_succ, List.getElem?_cons_zero] at g0 g1 g2 g3 g4 g5 g6 g7 g8 g9
      go_wp2_with fail
      have hV := sets_blk hGe [.int .i64 0, .int .u64 0, .int .u64 0, .int .u64 0, .slice none 0 0, .int .i64 0, .bool false, .int .i64 0, .bool false, .int .u64 0] rfl
      have hW := sets_only hOe (fun h => by have h' : G < w.heap.size := h; omega) [.int .i64 0, .int .u64 0, .int .u64 0, .int .u64 0, .slice none 0 0, .int .i64 0, .bool false, .int .i64 0, .bool false, .int .u64 0] 0
      have hW2 := sets_only (S := fun k => k = G) (Only.refl _ we) (fun _ => rfl) [.int .i64 0, .int .u64 0, .int .u64 0, .int .u64 0, .slice none 0 0, .int .i64 0, .bool false, .int .i64 0, .bool false, .int .u64 0] 0
      simp only [sets] at hV hW hW2
      refine bodyPost_ret (results_cell_tmp (P := Try.prog) rfl _ _ G _ _ _ _ rfl hV HFS.out rfl size_cmd) rfl ?_
      exact ⟨hW, .inr ⟨HR.out, rfl⟩⟩
    | true =>
      have HR : RowKit.Hid (Pk.dec (nums s) = some ⟨kd, a, b, c, [], 0, false, 0, false, now⟩) := Lib.hid (by rw [HD.out, HT.out, if_pos ⟨HDN.out, hmy⟩])
      clear hmy
      have g0 := hGe.cell 0
      have u0 := hGe.free 0
      have g1 := hGe.cell 1
      have u1 := hGe.free 1
      have g2 := hGe.cell 2
      have u2 := hGe.free 2
      have g3 := hGe.cell 3
      have u3 := hGe.free 3
      have g4 := hGe.cell 4
      have u4 := hGe.free 4
      have g5 := hGe.cell 5
      have u5 := hGe.free 5
      have g6 := hGe.cell 6
      have u6 := hGe.free 6
      have g7 := hGe.cell 7
      have u7 := hGe.free 7
      have g8 := hGe.cell 8
      have u8 := hGe.free 8
      have g9 := hGe.cell 9
      have u9 := hGe.free 9
      simp only [List.getElem?_toArray, List.getElem?_cons_succ, List.getElem?_cons_zero] at g0 g1 g2 g3 g4 g5 g6 g7 g8 g9
      go_wp2_with fail
      have hV := sets_blk hGe [.int .i64 (kd : Int), .int .u64 (a : Int), .int .u64 (b : Int), .int .u64 (c : Int), .slice none 0 0, .int .i64 0, .bool false, .int .i64 0, .bool false, .int .u64 (now : Int)] rfl
      have hW := sets_only hOe (fun h => by have h' : G < w.heap.size := h; omega) [.int .i64 (kd : Int), .int .u64 (a : Int), .int .u64 (b : Int), .int .u64 (c : Int), .slice none 0 0, .int .i64 0, .bool false, .int .i64 0, .bool false, .int .u64 (now : Int)] 0
      have hW2 := sets_only (S := fun k => k = G) (Only.refl _ we) (fun _ => rfl) [.int .i64 (kd : Int), .int .u64 (a : Int), .int .u64 (b : Int), .int .u64 (c : Int), .slice none 0 0, .int .i64 0, .bool false, .int .i64 0, .bool false, .int .u64 (now : Int)] 0
      simp only [sets] at hV hW hW2
      refine bodyPost_ret (results_cell_tmp (P := Try.prog) rfl _ _ G _ _ _ _ rfl hV HFS.out rfl size_cmd) rfl ?_
      exact ⟨hW, .inl ⟨⟨kd, a, b, c, [], 0, false, 0, false, now⟩, none, 0, HR.out, ⟨by simp, by simp⟩, rfl, hrowe.keepsT hW2 (fun k hk => by subst hk; exact fun ht => ht.ne_blk hGe (by decide) rfl)⟩⟩
end Go.Proofs.Ytogeeeigfhmpmaa
