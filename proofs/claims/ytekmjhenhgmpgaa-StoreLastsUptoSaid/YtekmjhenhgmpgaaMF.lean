/- What the statements of this seat lean on, part F: what the program's and the document's functions compute, in plain data. -/
import Derived.Test.YtekmjhenhgmpgaaME
import Derived.BigRegion

/- The document's stuffing and sum: what they answer is what the plain lists say. -/
namespace Go.Proofs.Ytekmjhenhgmpgaa
open Go.RowKit
set_option maxRecDepth 100000
--

namespace By
theorem u_elem : Try.prog.underlying 80 = some (.slice (Try.prog.elem 80)) := by kernel_rfl
theorem e_elem : Try.prog.elem 80 = 5 := by kernel_rfl
theorem z_elem (w : World) : (sizeOf (Try.prog.elem 80)).run Try.prog w = .ok 1 w := by
  obtain ⟨i, hi, hz, hsz, hby⟩ := info_parts By.info
  rw [e_elem]
  simp [sizeOf, typeInfo, hi, hsz]
end By
theorem BytesIn.nil (w : World) (ao : Option Addr) : BytesIn w ao [] := ⟨by simp, by unfold maxLen; simp, fun i hi => by simp at hi⟩
theorem BytesIn.cutAddr {w : World} {ao : Option Addr} {r : List Int} {cap : Nat} (h : BytesIn w ao r) (hc : r.length ≤ cap) (k : Nat) : BytesIn w (cutAddr ao k cap 1) (r.drop k) := by
  by_cases hk : k < r.length
  · obtain ⟨b, off, rfl, _⟩ := h.cell k hk
    have := h.drop k
    unfold Go.Proofs.Ytekmjhenhgmpgaa.cutAddr
    rw [if_neg (by omega), Option.map_some, Addr.add_lit, Nat.mul_one]
    exact this
  · rw [List.drop_eq_nil_iff.2 (by omega)]
    exact BytesIn.nil _ _

section
variable {ops : Array Oper} {rest : List Oper} {o : Oper} {a : Act} {Q : Exit → Act → World → Prop}
theorem wpList_cut_l (w w0 : World) (hg : o.guard = none) (x l : Operand) (ho : o.op = .slice 80 x (some l) none none) (ao : Option Addr) (r : List Int) (cap k : Nat) (kk : IntKind) (xl : Int) (n : Nat) (hx : a.eval x = .slice ao n cap) (hl : a.eval l = .int kk xl) (hxl : xl = k) (hn : n = r.length) (hb : BytesIn w0 ao r) (hc : r.length ≤ cap) (hk : k ≤ r.length)
    (h : ∀ ao', BytesIn w0 ao' (r.drop k) → wpList Try.prog ops Q rest (a.put o.dst (.slice ao' (r.length - k) (cap - k))) w) : wpList Try.prog ops Q (o :: rest) a w := by
  subst hn hxl
  exact wpList_slice_l w hg _ x l ho 1 By.u_elem By.z_elem ao _ cap k kk hx hl hk (h _ (hb.cutAddr hc k))
theorem wpList_cut_h (w : World) (hg : o.guard = none) (x u : Operand) (ho : o.op = .slice 80 x none (some u) none) (ao : Option Addr) (cap k : Nat) (kk : IntKind) (xl : Int) (n : Nat) (hx : a.eval x = .slice ao n cap) (hl : a.eval u = .int kk xl) (hxl : xl = k) (hk : k ≤ cap)
    (h : wpList Try.prog ops Q rest (a.put o.dst (.slice ao k cap)) w) : wpList Try.prog ops Q (o :: rest) a w := by
  subst hxl
  exact wpList_slice_h w hg _ x u ho 1 By.u_elem By.z_elem ao _ cap k kk hx hl hk h
theorem wpList_cut_lh (w w0 : World) (hg : o.guard = none) (x l u : Operand) (ho : o.op = .slice 80 x (some l) (some u) none) (ao : Option Addr) (r : List Int) (cap k m : Nat) (kk km : IntKind) (xl xu : Int) (n : Nat) (hx : a.eval x = .slice ao n cap) (hl : a.eval l = .int kk xl) (hu : a.eval u = .int km xu) (hxl : xl = k) (hxu : xu = m) (hb : BytesIn w0 ao r) (hc : r.length ≤ cap) (hk : k ≤ m) (hm : m ≤ r.length)
    (h : ∀ ao', BytesIn w0 ao' ((r.drop k).take (m - k)) → wpList Try.prog ops Q rest (a.put o.dst (.slice ao' (m - k) (cap - k))) w) : wpList Try.prog ops Q (o :: rest) a w := by
  subst hxl hxu
  exact wpList_slice_lh w hg _ x l u ho 1 By.u_elem By.z_elem ao _ cap k m kk km hx hl hu hk (by omega) (h _ ((hb.cutAddr hc k).take _))
end

section
variable {ops : Array Oper} {rest : List Oper} {o : Oper} {a : Act} {Q : Exit → Act → World → Prop}
/-- 'append' of a row of bytes to a row of the call's own -/
theorem wpList_append_bts (w : World) (hgd : o.guard = none) (s x : Operand) (ho : o.op = .call { callee := .builtin .append, args := #[s, x], argTypes := #[80, 80] })
    (base : Nat) (v : Value) (l m : List Int) (ao : Option Addr) (k n : Nat) (hs : a.eval s = v) (hown : Bts w base v l) (hx : a.eval x = .slice ao k n) (hk : k = m.length) (hm : BytesIn w ao m)
    (hlen : l.length + m.length ≤ 140737488355328) (hbase : base ≤ w.heap.size)
    (h : ∀ v' w', Bts w' base v' (l ++ m) → w.grownBy w' v.ownBlock → wpList Try.prog ops Q rest (a.put o.dst v') w') : wpList Try.prog ops Q (o :: rest) a w := by
  subst hk
  obtain ⟨i, hi, hz, hsz, hby⟩ := info_parts By.info
  refine wpList_plain hgd fun K hK => ?_
  unfold Oper.wp execOp
  simp only [ho, resolve, invoke, builtin, Sem.run_bind, Sem.run_pure, Result.andThen_ok, List.map_toArray, List.map_cons, List.map_nil, hs, hx]
  cases ao with
  | none =>
    have hm0 : m = [] := by
      cases m with
      | nil => rfl
      | cons y r => obtain ⟨b, off, e, _⟩ := hm.cell 0 (by simp); cases e
    subst hm0
    rw [show ([] : List Int).length = 0 from rfl, append_nothing base 80 o.type 5 i 1 By.u_bytes hi v l.length _ hown n]
    exact hK _ _ (h v w (by rw [List.append_nil]; exact hown) ⟨rfl, rfl, rfl, Nat.le_refl _, fun _ _ _ => rfl⟩)
  | some ad =>
    obtain ⟨v', w', hr, h2, h3, _, h5⟩ := run_append_own_at (P := Try.prog) w base 80 o.type 5 i (.int .u8 0) 1 1 By.u_bytes hi hz hsz hby rfl (by decide) v l.length _ hown ad m.length n (m.map (Value.int .u8)) (by simp) (by
      intro j u hj
      have hj' : j < m.length := by have := (List.getElem?_eq_some_iff.1 hj).1; simpa using this
      obtain ⟨b, off, e, hc⟩ := hm.cell j hj'
      cases e
      rw [List.getElem?_map, List.getElem?_eq_getElem hj'] at hj
      cases hj
      rw [Addr.add_lit, hc, List.getD_eq_getElem?_getD, List.getElem?_eq_getElem hj']
      rfl) (by
      intro u hu
      obtain ⟨y, _, rfl⟩ := List.mem_map.1 hu
      rfl) (by unfold maxLen; omega) (by omega) hbase
    rw [hr]
    refine hK _ _ (h v' w' ?_ h3)
    unfold Bts
    simpa using h2
end

/-! ### the sum -/
theorem rhalf_at (w : World) (x : Int) (hx : Crc.U x) :
    Calls Try.prog 58 #[.int .u32 x] w fun e w' => e = .returned (.int .u32 (Crc.half x)) ∧ w = w' := by
  obtain ⟨h0, h1⟩ := hx
  have ht : x.tmod 2 = x % 2 := Int.tmod_eq_emod_of_nonneg h0
  have hd : x.tdiv 2 = x / 2 := Int.tdiv_eq_ediv_of_nonneg h0
  unfold Crc.half
  by_cases ho : x % 2 = 1
  · rw [if_pos ho]
    have ht1 : x.tmod 2 = 1 := by omega
    clear ht
    go_enter Try.func58, Try.ntmps58
    go_wp2_with fail
    go_ret
    exact ⟨by rw [← hd]; rfl, rfl⟩
  · rw [if_neg ho]
    have ht1 : x.tmod 2 = 0 := by omega
    clear ht
    go_enter Try.func58, Try.ntmps58
    go_wp2_with fail
    go_ret
    exact ⟨by rw [← hd]; rfl, rfl⟩

set_option maxHeartbeats 1000000 in
theorem radd_at (w : World) (ao : Option Addr) (cap : Nat) (l : List Int) (hl : BytesIn w ao l) :
    Calls Try.prog 28 #[.int .u32 0, .slice ao l.length cap] w fun e w' => e = .returned (.int .u32 (Crc.add 0 l)) ∧ w = w' := by
  have hlm := hl.len
  unfold maxLen at hlm
  have hs' := Crc.not_U (x := 0) (by constructor <;> decide)
  go_enter Try.func28, Try.ntmps28
  go_wp2_with fail
  go_loop [5, 6] (fun v5 i => ∃ k : Nat, k ≤ l.length ∧ i = .int .i64 k ∧ v5 = .int .u32 (Crc.sum (4294967295 - 0) (l.take k))) (fun _ i => l.length - (intOf i).toNat)
  case atStart => exact ⟨0, by omega, rfl, rfl⟩
  case round =>
    obtain ⟨k, hk, rfl, rfl⟩ := hrel
    by_cases hlt : k < l.length
    · obtain ⟨b, off, rfl, hcell⟩ := hl.cell k hlt
      have hmem : l.getD k 0 ∈ l := by rw [List.getD_eq_getElem?_getD, List.getElem?_eq_getElem hlt]; exact List.getElem_mem hlt
      have hw := hl.wf _ hmem
      have hst := Crc.sum_step (4294967295 - 0) l k hlt
      have HST := Lib.hid hst
      clear hst hmem
      generalize l.getD k 0 = c at hcell hw HST
      generalize Crc.sum (4294967295 - 0) (l.take k) = x at HST ⊢
      go_wp2_with fail
      have hx0 := Crc.xor_u x c
      obtain ⟨x0, HX⟩ : ∃ x0, RowKit.Hid (bits .xor .u32 x c = x0) := ⟨_, Lib.hid rfl⟩
      rw [HX.out] at hx0 ⊢
      go_loop [5, 7] (fun v5 i => ∃ j : Nat, j ≤ 8 ∧ i = .int .i64 j ∧ v5 = .int .u32 (Crc.halfs j x0)) (fun _ i => 8 - (intOf i).toNat)
      case atStart => exact ⟨0, by omega, rfl, rfl⟩
      case round =>
        obtain ⟨j, hj, rfl, rfl⟩ := hrel
        by_cases hj8 : j < 8
        · have hu := Crc.halfs_u hx0 j
          go_wp2_with fail
          refine (rhalf_at w _ hu).mono ?_
          rintro e w1 ⟨rfl, rfl⟩
          go_wp2_with fail
          go_round
          case rel => exact ⟨j + 1, by omega, by go_num, rfl⟩
          case measure => simp [intOf]; omega
        · have e : j = 8 := by omega
          subst e
          go_wp2_with fail
          go_round
          case rel => exact ⟨k + 1, by omega, by go_num, by rw [HST.out]; unfold Crc.byte; rw [HX.out]⟩
          case measure => simp [intOf]; omega
    · have e : k = l.length := by omega
      subst e
      have hu := Crc.sum_u hs' l
      obtain ⟨hu0, hu1⟩ := hu
      rw [List.take_length]
      have HA : RowKit.Hid (Crc.add 0 l = 4294967295 - Crc.sum (4294967295 - 0) l) := Lib.hid rfl
      generalize Crc.sum (4294967295 - 0) l = x at hu0 hu1 HA ⊢
      go_wp2_with fail
      go_ret
      exact ⟨by rw [HA.out]; rfl, rfl⟩

/-! ### the stuffing -/
theorem rzero_at (w : World) (ao : Option Addr) (cap : Nat) (l : List Int) (hl : BytesIn w ao l) :
    Calls Try.prog 59 #[.slice ao l.length cap] w fun e w' => e = .returned (.int .i64 (Stuff.zero l : Nat)) ∧ w = w' := by
  have hlm := hl.len
  unfold maxLen at hlm
  go_enter Try.func59, Try.ntmps59
  go_wp2_with fail
  go_loop [3] (fun i => ∃ k : Nat, k ≤ l.length ∧ i = .int .i64 k ∧ RowKit.Hid (Sc.Clear l k)) (fun i => l.length - (intOf i).toNat)
  case atStart => exact ⟨0, by omega, rfl, Lib.hid (Sc.Clear.start _)⟩
  case round =>
    obtain ⟨k, hk, rfl, HC⟩ := hrel
    by_cases hlt : k < l.length
    · obtain ⟨b, off, rfl, hcell, hc0, hc1⟩ := hl.at hlt
      by_cases hz : l.getD k 0 = 0
      · have hzz := HC.out.zero hlt hz
        have HZ := Lib.hid hzz
        clear hzz
        rw [hz] at hcell
        clear hz hc0 hc1
        go_wp2_with fail
        go_ret
        exact ⟨by rw [HZ.out]; rfl, rfl⟩
      · have HC' := Lib.hid (HC.out.step hlt hz)
        generalize l.getD k 0 = c at hcell hc0 hc1 hz
        have hzb : (c == 0) = false := by simpa using hz
        clear hz
        go_wp2_with fail
        go_round
        case rel => exact ⟨k + 1, by omega, by go_num, HC'⟩
        case measure => simp [intOf]; omega
    · have e : k = l.length := by omega
      subst e
      have hzz : Stuff.zero l = l.length := Stuff.zero_all (by have := HC.out; unfold Sc.Clear at this; rwa [List.take_length] at this)
      have HZ := Lib.hid hzz
      clear hzz
      go_wp2_with fail
      go_ret
      exact ⟨by rw [HZ.out]; rfl, rfl⟩

set_option maxRecDepth 100000 in
set_option maxHeartbeats 2000000 in
theorem rencode_at (w : World) (ao : Option Addr) (cap : Nat) (l : List Int) (hl : BytesIn w ao l) (hcap : l.length ≤ cap) (hcm : cap ≤ maxLen) (hlen : l.length ≤ 70000000000000) :
    Calls Try.prog 29 #[.slice ao l.length cap] w fun e w' => ∃ v, e = .returned v ∧ Bts w' w.heap.size v (Stuff.enc l) ∧ Only NoBlock w w' := by
  have hel := Stuff.enc_long l
  unfold maxLen at hcm
  go_enter Try.func29, Try.ntmps29
  go_wp2_with fail
  go_loopw [0, 3] (fun v0 v3 wr => ∃ (ao' : Option Addr) (cap' : Nat) (r out : List Int), v0 = .slice ao' r.length cap' ∧ BytesIn w ao' r ∧ r.length ≤ cap' ∧ cap' ≤ 2 ^ 63 - 1 ∧ Bts wr w.heap.size v3 out ∧ Only NoBlock w wr ∧
      r.length ≤ l.length ∧ out.length + (Stuff.enc r).length ≤ 2 * l.length + 1 ∧ RowKit.Hid (Stuff.enc l = out ++ Stuff.enc r)) (fun v0 _ _ => match v0 with | .slice _ n _ => n | _ => 0)
  case atStart => exact ⟨ao, cap, l, [], rfl, hl, hcap, hcm, Bts.nil _ _, Only.refl _ _, Nat.le_refl _, by simpa using hel, Lib.hid rfl⟩
  case round =>
    obtain ⟨ao', cap', r, out, rfl, hb, hrc, hcm', hout, ho, hrl, hsz, HE⟩ := hrel
    have hz := ho.size
    have hzl := Stuff.zero_le r
    go_wp2_with fail
    refine (rzero_at wr ao' cap' r (hb.keeps ho (fun _ _ h => h))).mono ?_
    rintro e w1 ⟨rfl, rfl⟩
    have hbr := hb.keeps ho (fun _ _ h => h)
    by_cases hf : 254 ≤ Stuff.zero r
    · have hef := Stuff.enc_full hf
      have hsz2 : out.length + 1 + 254 + (Stuff.enc (r.drop 254)).length ≤ 2 * l.length + 1 := by
        rw [hef] at hsz; simp at hsz; omega
      have HE' : RowKit.Hid (Stuff.enc l = (out ++ [255]) ++ r.take 254 ++ Stuff.enc (r.drop 254)) := Lib.hid (by rw [HE.out, hef]; simp)
      have htl : (r.take 254).length = 254 := by rw [List.length_take]; omega
      have HTL := Lib.hid htl
      clear htl
      clear hef hsz HE
      have hr0 : 254 ≤ r.length := by omega
      obtain ⟨b, off, rfl, _⟩ := hb.cell 0 (by omega)
      have hbd := hb.drop 254
      generalize Stuff.zero r = n at hf hzl ⊢
      have htk := (hbr.take 254)
      go_upto_region 4 with fail
      go_upto_region 5 with (first
          | (at_builtin; refine wpList_append_byte _ rfl _ _ rfl w.heap.size _ out 255 ⟨wr.heap.size, 0, none⟩ 1 rfl (hout.keeps ((Only.refl NoBlock _).alloc _) (fun _ _ h => h)) rfl ?_ ?_ ?_ ?_; (exact cell_byte _ _ _ _ rfl); omega; (simp; omega); intro v' w2 hb2 hg2; have ho2 := (ho.alloc _).appended (hout.keeps ((Only.refl NoBlock _).alloc _) (fun _ _ h => h)) (Nat.le_refl _) hg2))
      go_upto_region 6 with (first
          | (refine wpList_cut_h _ rfl _ _ rfl _ cap' 254 _ _ _ rfl rfl rfl (by omega) ?_)
          | (at_builtin; refine wpList_append_bts _ rfl _ _ rfl w.heap.size _ (out ++ [255]) (r.take 254) _ _ _ rfl hb2 rfl ?_ ?_ ?_ ?_ ?_; (rw [HTL.out]); (exact (hb.keeps ho2 (fun _ _ h => h)).take 254); (rw [HTL.out]; simp; omega); (have := ho2.size; omega); intro v' w3 hb3 hg3; have ho3 := ho2.appended hb2 (Nat.le_refl _) hg3))
      clear ho hout hg2 hb2 hg3 hbr htk
      go_wp2_with (first
          | (refine wpList_cut_l _ w rfl _ _ rfl _ r cap' 254 _ _ _ rfl rfl rfl rfl hb hrc (by omega) ?_; intro ao' hb'))
      have hdl : (r.drop 254).length = r.length - 254 := List.length_drop
      exact ⟨⟨ao', cap' - 254, r.drop 254, _, by rw [hdl], hb', by omega, by omega, hb3, ho3, by omega, by rw [List.length_append, HTL.out, List.length_append]; simp only [List.length_singleton]; omega, HE'⟩, by simp; omega⟩
    · by_cases hend : Stuff.zero r = r.length
      · have hel' := Stuff.enc_last (b := r) (by omega) hend
        have HE' : RowKit.Hid (Stuff.enc l = (out ++ [(r.length : Int) + 1]) ++ r) := Lib.hid (by rw [HE.out, hel']; simp)
        have hsz2 : out.length + 1 + r.length ≤ 2 * l.length + 1 := by rw [hel'] at hsz; simp at hsz; omega
        rw [hend]
        rw [hend] at hf
        clear hel' hsz HE hend hzl
        have htk : BytesIn w ao' (r.take r.length) := hb.take _
        rw [List.take_length] at htk
        go_upto_region 7 with fail
        go_upto_region 8 with (first
          | (at_builtin; refine wpList_append_byte _ rfl _ _ rfl w.heap.size _ out ((r.length : Int) + 1) ⟨wr.heap.size, 0, none⟩ 1 rfl (hout.keeps ((Only.refl NoBlock _).alloc _) (fun _ _ h => h)) rfl ?_ ?_ ?_ ?_; (exact cell_byte _ _ _ _ rfl); omega; (simp; omega); intro v' w2 hb2 hg2; have ho2 := (ho.alloc _).appended (hout.keeps ((Only.refl NoBlock _).alloc _) (fun _ _ h => h)) (Nat.le_refl _) hg2))
        go_upto_region 9 with (first
          | (refine wpList_cut_h _ rfl _ _ rfl _ cap' r.length _ _ _ rfl rfl rfl hrc ?_)
          | (at_builtin; refine wpList_append_bts _ rfl _ _ rfl w.heap.size _ (out ++ [(r.length : Int) + 1]) r _ _ _ rfl hb2 rfl rfl ?_ ?_ ?_ ?_; (exact hb.keeps ho2 (fun _ _ h => h)); (simp; omega); (have := ho2.size; omega); intro v' w3 hb3 hg3; have ho3 := ho2.appended hb2 (Nat.le_refl _) hg3))
        go_wp2_with fail
        go_ret
        exact ⟨_, rfl, by rw [HE'.out]; exact hb3, ho3⟩
      · have hel' := Stuff.enc_piece (b := r) (by omega) (by omega)
        have HE' : RowKit.Hid (Stuff.enc l = (out ++ [((Stuff.zero r : Nat) : Int) + 1]) ++ r.take (Stuff.zero r) ++ Stuff.enc (r.drop (Stuff.zero r + 1))) := Lib.hid (by rw [HE.out, hel']; simp)
        have hsz2 : out.length + 1 + Stuff.zero r + (Stuff.enc (r.drop (Stuff.zero r + 1))).length ≤ 2 * l.length + 1 := by rw [hel'] at hsz; simp at hsz; omega
        have htl : (r.take (Stuff.zero r)).length = Stuff.zero r := by rw [List.length_take]; omega
        have HTL := Lib.hid htl
        clear hel' hsz HE htl
        have htk : BytesIn w ao' (r.take (Stuff.zero r)) := hb.take _
        generalize Stuff.zero r = n at *
        have hne : ((n : Int) == (r.length : Int)) = false := by simp; omega
        go_upto_region 7 with fail
        go_upto_region 8 with (first
          | (at_builtin; refine wpList_append_byte _ rfl _ _ rfl w.heap.size _ out ((n : Int) + 1) ⟨wr.heap.size, 0, none⟩ 1 rfl (hout.keeps ((Only.refl NoBlock _).alloc _) (fun _ _ h => h)) rfl ?_ ?_ ?_ ?_; (exact cell_byte _ _ _ _ rfl); omega; (simp; omega); intro v' w2 hb2 hg2; have ho2 := (ho.alloc _).appended (hout.keeps ((Only.refl NoBlock _).alloc _) (fun _ _ h => h)) (Nat.le_refl _) hg2))
        go_upto_region 9 with (first
          | (refine wpList_cut_h _ rfl _ _ rfl _ cap' n _ _ _ rfl rfl rfl (by omega) ?_)
          | (at_builtin; refine wpList_append_bts _ rfl _ _ rfl w.heap.size _ (out ++ [(n : Int) + 1]) (r.take n) _ _ _ rfl hb2 rfl ?_ ?_ ?_ ?_ ?_; (rw [HTL.out]); (exact htk.keeps ho2 (fun _ _ h => h)); (rw [HTL.out]; simp; omega); (have := ho2.size; omega); intro v' w3 hb3 hg3; have ho3 := ho2.appended hb2 (Nat.le_refl _) hg3))
        go_wp2_with (first
          | (refine wpList_cut_l _ w rfl _ _ rfl _ r cap' (n + 1) _ _ _ rfl rfl (by omega) rfl hb hrc (by omega) ?_; intro ao'' hb'))
        have hdl : (r.drop (n + 1)).length = r.length - (n + 1) := List.length_drop
        exact ⟨⟨ao'', cap' - (n + 1), r.drop (n + 1), _, by rw [hdl], hb', by omega, by omega, hb3, ho3, by omega, by rw [List.length_append, HTL.out, List.length_append]; simp only [List.length_singleton]; omega, HE'⟩, by simp; omega⟩

end Go.Proofs.Ytekmjhenhgmpgaa

/- The document's taking back, frames and scanning: what they answer is what the plain lists say. -/
namespace Go.Proofs.Ytekmjhenhgmpgaa
open Go.RowKit
set_option maxRecDepth 100000
--

namespace Stuff
theorem plP_byte : ∀ (k : Nat) (sep : Bool) (out b x : List Int), Wal.Byte out → Wal.Byte b → plP k sep out b = some x → Wal.Byte x
  | 0, _, _, _, _, _, _, h => by simp [plP] at h
  | k + 1, sep, out, [], x, ho, _, h => by simp [plP] at h; subst h; exact ho
  | k + 1, sep, out, n :: b, x, ho, hb, h => by
    have hb' : Wal.Byte b := fun c hc => hb c (by simp [hc])
    unfold plP at h
    split at h
    · cases h
    split at h
    · cases h
    refine plP_byte k _ _ _ x ?_ (hb'.drop _) h
    refine Wal.Byte.append ?_ (hb'.take _)
    split
    · exact ho.append (by intro c hc; simp at hc; omega)
    · exact ho
theorem pl_byte {b x : List Int} (hb : Wal.Byte b) (h : pl b = some x) : Wal.Byte x := by
  unfold pl at h
  split at h
  · cases h
  · exact plP_byte _ _ [] b x (by intro c hc; cases hc) hb h
end Stuff
theorem Bts.caps {w : World} {base : Nat} {ao : Option Addr} {cap : Nat} {l : List Int} (h : Bts w base (.slice ao l.length cap) l) : l.length ≤ cap ∧ cap ≤ maxLen := by
  rcases h.2 with ⟨h1, h0⟩ | ⟨g, cap', cur, h1, hb, hg, hn, hm, _, ht⟩
  · simp only [Value.slice.injEq] at h1
    exact ⟨by omega, by rw [h1.2.2]; unfold maxLen; omega⟩
  · simp only [Value.slice.injEq] at h1
    obtain ⟨rfl, _, rfl⟩ := h1
    exact ⟨hn, hm⟩
theorem rzero_as (w : World) (ao : Option Addr) (cap n : Nat) (l : List Int) (hl : BytesIn w ao l) (hn : l.length = n) :
    Calls Try.prog 59 #[.slice ao n cap] w fun e w' => e = .returned (.int .i64 (Stuff.zero l : Nat)) ∧ w = w' := by
  subst hn
  exact rzero_at w ao cap l hl

set_option maxRecDepth 100000 in
set_option maxHeartbeats 2000000 in
theorem rplain_at (w : World) (ao : Option Addr) (cap : Nat) (l : List Int) (hl : BytesIn w ao l) (hcap : l.length ≤ cap) (hcm : cap ≤ maxLen) (hlen : l.length ≤ 70000000000000) :
    Calls Try.prog 98 #[.slice ao l.length cap] w fun e w' => ∃ v, e = .returned (.tuple #[v, .bool (Stuff.pl l).isSome]) ∧ Bts w' w.heap.size v ((Stuff.pl l).getD []) ∧ Only NoBlock w w' ∧ ((Stuff.pl l).getD []).length ≤ 70000000000000 := by
  unfold maxLen at hcm
  by_cases hn : l = []
  · subst hn
    have HN : RowKit.Hid (Stuff.pl [] = none) := Lib.hid rfl
    go_enter Try.func98, Try.ntmps98
    go_wp2_with fail
    go_loopw [0, 4, 5, 6] (fun v0 v4 v5 v6 wr => v0 = .slice ao 0 cap ∧ v4 = .slice none 0 0 ∧ v5 = .bool true ∧ v6 = .bool true ∧ wr = w) (fun _ _ _ _ _ => 0)
    case atStart => exact ⟨rfl, rfl, rfl, rfl, rfl⟩
    case round =>
      obtain ⟨rfl, rfl, rfl, rfl, rfl⟩ := hrel
      go_wp2_with fail
      go_ret2
      exact ⟨_, by rw [HN.out]; rfl, by rw [HN.out]; exact Bts.nil _ _, Only.refl _ _, by rw [HN.out]; exact Nat.zero_le _⟩
  · have HPL : RowKit.Hid (Stuff.pl l = Stuff.plP (l.length + 1) (!true && !true) [] l) := Lib.hid (by unfold Stuff.pl; rw [if_neg hn]; rfl)
    go_enter Try.func98, Try.ntmps98
    go_wp2_with fail
    go_loopw [0, 4, 5, 6] (fun v0 v4 v5 v6 wr => ∃ (ao' : Option Addr) (cap' kf : Nat) (r out : List Int) (full first : Bool), v0 = .slice ao' r.length cap' ∧ v5 = .bool full ∧ v6 = .bool first ∧ BytesIn w ao' r ∧ r.length ≤ cap' ∧ cap' ≤ 2 ^ 63 - 1 ∧ Bts wr w.heap.size v4 out ∧ Only NoBlock w wr ∧
        r.length + out.length ≤ 70000000000000 ∧ r.length < kf ∧ RowKit.Hid (first = true → r ≠ []) ∧ RowKit.Hid (Stuff.pl l = Stuff.plP kf (!first && !full) out r)) (fun v0 _ _ _ _ => match v0 with | .slice _ n _ => n | _ => 0)
    case atStart => exact ⟨ao, cap, l.length + 1, l, [], true, true, rfl, rfl, rfl, hl, hcap, hcm, Bts.nil _ _, Only.refl _ _, by simpa using hlen, by omega, Lib.hid (fun _ => hn), HPL⟩
    case round =>
      clear HPL
      obtain ⟨ao', cap', kf, r, out, full, first, rfl, rfl, rfl, hb, hrc, hcm', hout, ho, hrl, hkf, HF, HD⟩ := hrel
      have hz := ho.size
      obtain ⟨kf, rfl⟩ : ∃ m, kf = m + 1 := ⟨kf - 1, by omega⟩
      cases r with
      | nil =>
        cases first with
        | true => exact absurd rfl (HF.out rfl)
        | false =>
          have hsome : Stuff.pl l = some out := by rw [HD.out]; rfl
          have HN := Lib.hid hsome
          clear hsome HD
          go_wp2_with fail
          go_ret2
          exact ⟨_, by rw [HN.out]; rfl, by rw [HN.out]; exact hout, ho, by rw [HN.out]; exact (by omega : out.length ≤ 70000000000000)⟩
      | cons n t =>
        obtain ⟨b, off, rfl, hcell, hn0, hn1⟩ := (hb.keeps ho (fun _ _ h => h)).at (k := 0) (by simp)
        rw [List.getD_cons_zero] at hcell hn0 hn1
        rw [Nat.add_zero] at hcell
        rw [List.length_cons] at hrc hrl hkf ⊢
        have hne : ∀ a : Prop, a → RowKit.Hid a := fun _ h => Lib.hid h
        clear HF
        by_cases hbad : n ≤ 0 ∨ (t.length : Int) + 1 < n
        · have hnone : Stuff.pl l = none := by rw [HD.out, Stuff.plP, if_pos hbad]
          have HN := Lib.hid hnone
          clear hnone HD
          by_cases hz0 : n = 0
          · subst hz0
            go_wp2_with fail
            go_ret2
            refine ⟨_, by rw [HN.out]; rfl, by rw [HN.out]; exact Bts.nil _ _, ho, by rw [HN.out]; exact Nat.zero_le _⟩
          · have hz1 : (n == 0) = false := by simpa using hz0
            have hz2 : (t.length : Int) + 1 < n := by omega
            clear hz0 hbad
            go_wp2_with fail
            go_ret2
            refine ⟨_, by rw [HN.out]; rfl, by rw [HN.out]; exact Bts.nil _ _, ho, by rw [HN.out]; exact Nat.zero_le _⟩
        · have hnz : (n == 0) = false := by simp; omega
          obtain ⟨m, rfl⟩ : ∃ m : Nat, n = (m : Int) + 1 := ⟨(n - 1).toNat, by omega⟩
          have hmt : m ≤ t.length := by omega
          have hstep : Stuff.pl l = if Stuff.zero (t.take m) < m then none else Stuff.plP kf (decide ((m : Int) + 1 ≠ 255)) ((if (!first && !full) then out ++ [0] else out) ++ t.take m) (t.drop m) := by
            rw [HD.out, Stuff.plP, if_neg hbad]
            have e : ((m : Int) + 1).toNat - 1 = m := by omega
            rw [e]
          have HS := Lib.hid hstep
          clear hstep HD hbad
          have hdc : decide ((t.length : Int) + 1 < (m : Int) + 1) = false := by simp; omega
          have htl : (t.take m).length = m := by rw [List.length_take]; omega
          have hzl := Stuff.zero_le (t.take m)
          rw [htl] at hzl
          have HTL := Lib.hid htl
          clear htl
          have hbd := hb.drop 1
          rw [List.drop_succ_cons, List.drop_zero] at hbd
          have hb2 : ∀ w', Only NoBlock w w' → BytesIn w' (some ⟨b, off + 1, none⟩) (t.take m) := fun w' h => (hbd.keeps h (fun _ _ h => h)).take m
          have hbC := hb.drop (m + 1)
          rw [List.drop_succ_cons] at hbC
          have hbA : cap' = 1 ∨ cap' = m + 1 → BytesIn w (some ⟨b, off, none⟩) (t.drop m) := by
            intro e
            rw [List.drop_eq_nil_iff.2 (by omega)]
            exact BytesIn.nil _ _
          have hbI : BytesIn w (if cap' = m + 1 then some ⟨b, off, none⟩ else some ⟨b, off + (m + 1), none⟩) (t.drop m) := by
            split
            · exact hbA (.inr (by assumption))
            · exact hbC
          have hb1 : cap' = 1 → ∀ w', BytesIn w' (some ⟨b, off, none⟩) (t.take m) := by
            intro e w'
            have : t = [] := List.length_eq_zero_iff.1 (by omega)
            subst this
            rw [List.take_nil]
            exact BytesIn.nil _ _
          go_wp2_with fail
          all_goals
            refine (rzero_as wr _ _ m (t.take m) ?_ HTL.out).mono ?_
            · first
              | exact hb2 _ ho
              | exact hb1 (by assumption) _
            rintro e w1 ⟨rfl, rfl⟩
            by_cases hlt : Stuff.zero (t.take m) < m
            · have hnone : Stuff.pl l = none := by rw [HS.out, if_pos hlt]
              have HN := Lib.hid hnone
              clear hnone HS
              go_wp2_with fail
              go_ret2
              refine ⟨_, by rw [HN.out]; rfl, by rw [HN.out]; exact Bts.nil _ _, ho, by rw [HN.out]; exact Nat.zero_le _⟩
            · have hrest : Stuff.pl l = Stuff.plP kf (decide ((m : Int) + 1 ≠ 255)) ((if (!first && !full) then out ++ [0] else out) ++ t.take m) (t.drop m) := by rw [HS.out, if_neg hlt]
              have HR := Lib.hid hrest
              clear hrest HS
              have hzm : Stuff.zero (t.take m) = m := by omega
              rw [hzm]
              have hmm : decide ((m : Int) < (m : Int)) = false := by simp
              clear hzm hzl hlt
              have go1 : ∀ (out' : List Int), True := fun _ => trivial
              go_upto_region 8 with fail
              cases first <;> cases full
              · clear go1
                replace HR : RowKit.Hid (Stuff.pl l = Stuff.plP kf (decide ((m : Int) + 1 ≠ 255)) ((out ++ [0]) ++ t.take m) (t.drop m)) := HR
                go_upto_region 10 with (first
                  | (at_builtin; refine wpList_append_byte _ rfl _ _ rfl w.heap.size _ out 0 ⟨wr.heap.size, 0, none⟩ 1 rfl (hout.keeps ((Only.refl NoBlock _).alloc _) (fun _ _ h => h)) rfl ?_ ?_ ?_ ?_; (exact cell_byte _ _ _ _ rfl); omega; (simp; omega); intro v' w2 hb2' hg2; have ho2 := (ho.alloc _).appended (hout.keeps ((Only.refl NoBlock _).alloc _) (fun _ _ h => h)) (Nat.le_refl _) hg2))
                go_upto_region 11 with (first
                  | (at_builtin; refine wpList_append_bts _ rfl _ _ rfl w.heap.size _ (out ++ [0]) (t.take m) _ _ _ rfl hb2' rfl ?_ ?_ ?_ ?_ ?_; (rw [HTL.out]); (first | exact hb2 _ ho2 | exact hb1 (by assumption) _); (rw [HTL.out]; (try simp); omega); (have := ho2.size; omega); intro v' w3 hb3 hg3; have ho3 := ho2.appended hb2' (Nat.le_refl _) hg3))
                have hfl : RowKit.Hid ((!false && !((m : Int) + 1 == 255)) = decide ((m : Int) + 1 ≠ 255)) := Lib.hid (by by_cases h : (m : Int) + 1 = 255 <;> simp [h])
                have hdl : (t.drop m).length = t.length - m := List.length_drop
                go_wp2_with fail
                all_goals first
                | exact ⟨⟨some ⟨b, off, none⟩, 0, kf, t.drop m, (out ++ [0]) ++ t.take m, ((m : Int) + 1 == 255), false, by rw [hdl], rfl, rfl, hbA (by first | (left; assumption) | (right; omega)), by omega, by omega, hb3, ho3, by rw [List.length_append, HTL.out, hdl]; (try simp); omega, by omega, Lib.hid (by intro h; cases h), by rw [hfl.out]; exact HR⟩, by simp; omega⟩
                | exact ⟨⟨if cap' = m + 1 then some ⟨b, off, none⟩ else some ⟨b, off + (m + 1), none⟩, cap' - (m + 1), kf, t.drop m, (out ++ [0]) ++ t.take m, ((m : Int) + 1 == 255), false, by rw [hdl], rfl, rfl, hbI, by omega, by omega, hb3, ho3, by rw [List.length_append, HTL.out, hdl]; (try simp); omega, by omega, Lib.hid (by intro h; cases h), by rw [hfl.out]; exact HR⟩, by simp; omega⟩
              · clear go1
                replace HR : RowKit.Hid (Stuff.pl l = Stuff.plP kf (decide ((m : Int) + 1 ≠ 255)) (out ++ t.take m) (t.drop m)) := HR
                go_upto_region 11 with (first
                  | (at_builtin; refine wpList_append_bts _ rfl _ _ rfl w.heap.size _ out (t.take m) _ _ _ rfl hout rfl ?_ ?_ ?_ ?_ ?_; (rw [HTL.out]); (first | exact hb2 _ ho | exact hb1 (by assumption) _); (rw [HTL.out]; (try simp); omega); (have := ho.size; omega); intro v' w3 hb3 hg3; have ho3 := ho.appended hout (Nat.le_refl _) hg3))
                have hfl : RowKit.Hid ((!false && !((m : Int) + 1 == 255)) = decide ((m : Int) + 1 ≠ 255)) := Lib.hid (by by_cases h : (m : Int) + 1 = 255 <;> simp [h])
                have hdl : (t.drop m).length = t.length - m := List.length_drop
                go_wp2_with fail
                all_goals first
                | exact ⟨⟨some ⟨b, off, none⟩, 0, kf, t.drop m, out ++ t.take m, ((m : Int) + 1 == 255), false, by rw [hdl], rfl, rfl, hbA (by first | (left; assumption) | (right; omega)), by omega, by omega, hb3, ho3, by rw [List.length_append, HTL.out, hdl]; (try simp); omega, by omega, Lib.hid (by intro h; cases h), by rw [hfl.out]; exact HR⟩, by simp; omega⟩
                | exact ⟨⟨if cap' = m + 1 then some ⟨b, off, none⟩ else some ⟨b, off + (m + 1), none⟩, cap' - (m + 1), kf, t.drop m, out ++ t.take m, ((m : Int) + 1 == 255), false, by rw [hdl], rfl, rfl, hbI, by omega, by omega, hb3, ho3, by rw [List.length_append, HTL.out, hdl]; (try simp); omega, by omega, Lib.hid (by intro h; cases h), by rw [hfl.out]; exact HR⟩, by simp; omega⟩
              · clear go1
                replace HR : RowKit.Hid (Stuff.pl l = Stuff.plP kf (decide ((m : Int) + 1 ≠ 255)) (out ++ t.take m) (t.drop m)) := HR
                go_upto_region 11 with (first
                  | (at_builtin; refine wpList_append_bts _ rfl _ _ rfl w.heap.size _ out (t.take m) _ _ _ rfl hout rfl ?_ ?_ ?_ ?_ ?_; (rw [HTL.out]); (first | exact hb2 _ ho | exact hb1 (by assumption) _); (rw [HTL.out]; (try simp); omega); (have := ho.size; omega); intro v' w3 hb3 hg3; have ho3 := ho.appended hout (Nat.le_refl _) hg3))
                have hfl : RowKit.Hid ((!false && !((m : Int) + 1 == 255)) = decide ((m : Int) + 1 ≠ 255)) := Lib.hid (by by_cases h : (m : Int) + 1 = 255 <;> simp [h])
                have hdl : (t.drop m).length = t.length - m := List.length_drop
                go_wp2_with fail
                all_goals first
                | exact ⟨⟨some ⟨b, off, none⟩, 0, kf, t.drop m, out ++ t.take m, ((m : Int) + 1 == 255), false, by rw [hdl], rfl, rfl, hbA (by first | (left; assumption) | (right; omega)), by omega, by omega, hb3, ho3, by rw [List.length_append, HTL.out, hdl]; (try simp); omega, by omega, Lib.hid (by intro h; cases h), by rw [hfl.out]; exact HR⟩, by simp; omega⟩
                | exact ⟨⟨if cap' = m + 1 then some ⟨b, off, none⟩ else some ⟨b, off + (m + 1), none⟩, cap' - (m + 1), kf, t.drop m, out ++ t.take m, ((m : Int) + 1 == 255), false, by rw [hdl], rfl, rfl, hbI, by omega, by omega, hb3, ho3, by rw [List.length_append, HTL.out, hdl]; (try simp); omega, by omega, Lib.hid (by intro h; cases h), by rw [hfl.out]; exact HR⟩, by simp; omega⟩
              · clear go1
                replace HR : RowKit.Hid (Stuff.pl l = Stuff.plP kf (decide ((m : Int) + 1 ≠ 255)) (out ++ t.take m) (t.drop m)) := HR
                go_upto_region 11 with (first
                  | (at_builtin; refine wpList_append_bts _ rfl _ _ rfl w.heap.size _ out (t.take m) _ _ _ rfl hout rfl ?_ ?_ ?_ ?_ ?_; (rw [HTL.out]); (first | exact hb2 _ ho | exact hb1 (by assumption) _); (rw [HTL.out]; (try simp); omega); (have := ho.size; omega); intro v' w3 hb3 hg3; have ho3 := ho.appended hout (Nat.le_refl _) hg3))
                have hfl : RowKit.Hid ((!false && !((m : Int) + 1 == 255)) = decide ((m : Int) + 1 ≠ 255)) := Lib.hid (by by_cases h : (m : Int) + 1 = 255 <;> simp [h])
                have hdl : (t.drop m).length = t.length - m := List.length_drop
                go_wp2_with fail
                all_goals first
                | exact ⟨⟨some ⟨b, off, none⟩, 0, kf, t.drop m, out ++ t.take m, ((m : Int) + 1 == 255), false, by rw [hdl], rfl, rfl, hbA (by first | (left; assumption) | (right; omega)), by omega, by omega, hb3, ho3, by rw [List.length_append, HTL.out, hdl]; (try simp); omega, by omega, Lib.hid (by intro h; cases h), by rw [hfl.out]; exact HR⟩, by simp; omega⟩
                | exact ⟨⟨if cap' = m + 1 then some ⟨b, off, none⟩ else some ⟨b, off + (m + 1), none⟩, cap' - (m + 1), kf, t.drop m, out ++ t.take m, ((m : Int) + 1 == 255), false, by rw [hdl], rfl, rfl, hbI, by omega, by omega, hb3, ho3, by rw [List.length_append, HTL.out, hdl]; (try simp); omega, by omega, Lib.hid (by intro h; cases h), by rw [hfl.out]; exact HR⟩, by simp; omega⟩

/-- a row of bytes as a text, in any world that has it -/
theorem conv_run {w : World} {ao : Option Addr} {cap : Nat} {l : List Int} (hb : BytesIn w ao l) : (convert 80 9 (.slice ao l.length cap)).run Try.prog w = .ok (.string (textOf l)) w := by
  cases l with
  | nil =>
    rw [show ([] : List Int).length = 0 from rfl, run_convert_bytes_string w 80 9 5 ao 0 cap By.u_bytes Cv.u_byte Cv.u_string]
    cases ao with
    | none => rfl
    | some a =>
      have hl := run_loadCells_list (P := Try.prog) w a ([] : List Value) (fun j v hj => by cases hj)
      exact run_bytesToString w a 0 cap [] hl
  | cons c r =>
    obtain ⟨b, off, rfl, _⟩ := hb.cell 0 (by simp)
    have := run_convert_bytes_back (P := Try.prog) w 80 9 5 ⟨b, off, none⟩ cap ((c :: r).map (fun x => UInt8.ofNat x.toNat)) By.u_bytes Cv.u_byte Cv.u_string (by
      intro j hj
      have hj' : j < (c :: r).length := by simpa using hj
      obtain ⟨b', off', e, hc⟩ := hb.cell j hj'
      cases e
      have hw := hb.wf _ (List.getElem_mem hj')
      rw [Addr.add_lit, hc, List.getElem_map, List.getD_eq_getElem?_getD, List.getElem?_eq_getElem hj']
      congr 2
      simp only [Option.getD_some]
      rw [UInt8.toNat_ofNat']
      omega)
    rw [List.length_map] at this
    exact this

set_option maxRecDepth 100000 in
set_option maxHeartbeats 2000000 in
theorem rdecode_at (w : World) (ao : Option Addr) (cap : Nat) (l : List Int) (hl : BytesIn w ao l) (hcap : l.length ≤ cap) (hcm : cap ≤ maxLen) (hlen : l.length ≤ 35000000000000) :
    Calls Try.prog 96 #[.slice ao l.length cap] w fun e w' => ∃ v, e = .returned (.tuple #[v, .int .i64 (decE (Stuff.dec l))]) ∧ Bts w' w.heap.size v (decL (Stuff.dec l)) ∧ Only NoBlock w w' := by
  have hdp := Stuff.dec_pl (b := l) (fun c hc => (hl.wf c hc).2)
  have HDP := Lib.hid hdp
  clear hdp
  go_enter Try.func96, Try.ntmps96
  go_wp2_with fail
  refine (rplain_at w ao cap l hl hcap hcm (by omega)).mono ?_
  rintro e w1 ⟨v, rfl, hb1, ho1, hxl⟩
  cases hp : Stuff.pl l with
  | none =>
    rw [hp] at HDP hb1
    have hnone : Stuff.dec l = none := HDP.out
    have HN := Lib.hid hnone
    clear hnone HDP hp
    rw [show (none : Option (List Int)).isSome = false from rfl]
    go_wp2_with fail
    go_quiet (fail)
    go_wp2_with fail
    go_ret2
    exact ⟨_, by rw [HN.out]; rfl, by rw [HN.out]; exact Bts.nil _ _, ho1.drewN _⟩
  | some x =>
    rw [hp] at HDP hb1
    replace hb1 : Bts w1 w.heap.size v x := hb1
    rw [show (some x).isSome = true from rfl]
    rw [hp] at hxl
    replace hxl : x.length ≤ 70000000000000 := hxl
    have hxw := Stuff.pl_byte (fun c hc => hl.wf c hc) hp
    clear hp
    obtain ⟨ao1, cap1, rfl⟩ := Bts.shape' hb1
    have hbx : BytesIn w1 ao1 x := hb1.read hxw
    have hxc := Bts.caps hb1
    have hcv : ∀ w' : World, ((Only NoBlock w w' ∧ Only NoBlock w1 w') ∧ BytesIn w' ao1 x) → (convert 80 9 (.slice ao l.length cap)).run Try.prog w' = .ok (.string (textOf l)) w' := fun w' h => conv_run (hl.keeps h.1.1 (fun _ _ h => h))
    have henc : ∀ W, ((Only NoBlock w W ∧ Only NoBlock w1 W) ∧ BytesIn W ao1 x) → Calls Try.prog 29 #[.slice ao1 x.length cap1] W fun e w' => ∃ ao2 cap2, e = .returned (.slice ao2 (Stuff.enc x).length cap2) ∧ ((Only NoBlock w w' ∧ Only NoBlock w1 w') ∧ BytesIn w' ao1 x) ∧ (convert 80 9 (.slice ao2 (Stuff.enc x).length cap2)).run Try.prog w' = .ok (.string (textOf (Stuff.enc x))) w' := by
      intro W hW
      refine (rencode_at W ao1 cap1 x hW.2 hxc.1 hxc.2 hxl).mono ?_
      rintro e w2 ⟨v2, rfl, hb2, ho2⟩
      obtain ⟨ao2, cap2, rfl⟩ := Bts.shape' hb2
      exact ⟨ao2, cap2, rfl, ⟨⟨hW.1.1.trans ho2, hW.1.2.trans ho2⟩, hW.2.keeps ho2 (fun _ _ h => h)⟩, conv_run (hb2.read (Stuff.enc_byte hxw))⟩
    go_upto_region 2 with fail
    have hS1 : (Only NoBlock w w1.drew ∧ Only NoBlock w1 w1.drew) ∧ BytesIn w1.drew ao1 x := ⟨⟨ho1.drew, (Only.refl NoBlock _).drew⟩, hbx.keeps ((Only.refl NoBlock _).drew) (fun _ _ h => h)⟩
    go_region_with (first
        | (go_at_call 29; refine (henc _ (by assumption)).mono ?_; rintro e w2 ⟨ao2, cap2, rfl, hS2, hcv2⟩))
    all_goals
      have hO2 := hS2.1.1
      have hO12 := hS2.1.2
      have hb2 := (hl.keeps hO2 (fun _ _ h => h))
      clear hcv henc hcv2
      by_cases he : Stuff.enc x = l
      · have hsome : Stuff.dec l = some x := by rw [HDP.out, if_pos he]
        have HN := Lib.hid hsome
        rw [he]
        clear hsome HDP he
        have hnb : (!(textOf l).toList == (textOf l).toList) = false := by simp
        rw [hnb]
        go_wp2_with fail
        go_ret2
        exact ⟨_, by rw [HN.out]; rfl, by rw [HN.out]; exact hb1.keeps hO12 (fun _ _ h => h), hO2⟩
      · have hnone : Stuff.dec l = none := by rw [HDP.out, if_neg he]
        have HN := Lib.hid hnone
        have hne : textOf (Stuff.enc x) ≠ textOf l := by
          intro e
          have := congrArg nums e
          rw [nums_textOf (Stuff.enc_byte hxw), nums_textOf (fun c hc => hl.wf c hc)] at this
          exact he this
        have hnb := ba_ne hne
        clear hnone HDP he hne
        rw [hnb]
        go_wp2_with fail
        go_ret2
        exact ⟨_, by rw [HN.out]; rfl, by rw [HN.out]; exact Bts.nil _ _, hO2⟩

end Go.Proofs.Ytekmjhenhgmpgaa

/- The document's frames and scanning: what they answer is what the plain lists say. -/
namespace Go.Proofs.Ytekmjhenhgmpgaa
open Go.RowKit
set_option maxRecDepth 100000
--

theorem textOf_zero (l : List Int) : textOf l ++ ⟨#[0]⟩ = textOf (l ++ [0]) := by
  rw [textOf_append]; rfl

set_option maxHeartbeats 1000000 in
theorem rframe_at (w : World) (s : ByteArray) (hs : s.size ≤ 1000000000) :
    Calls Try.prog 9 #[.string s] w fun e w' => e = .returned (.string (textOf (Wal.frame (nums s)))) ∧ Only NoBlock w w' := by
  have hl : (nums s).length ≤ 1000000000 := by rw [nums_length]; exact hs
  have hr := Wal.raw_length (nums s)
  have HR := Lib.hid hr
  have hr' : (Wal.raw (nums s)).length ≤ 1000000004 := by omega
  have hel := Stuff.enc_long (Wal.raw (nums s))
  clear hr
  have hx := Wal.crc_U (nums s)
  have hbe := Wal.be4_byte hx
  obtain ⟨hx0, hx1⟩ := hx
  go_enter Try.func9, Try.ntmps9
  go_wp2_with (first
    | (refine wpList_conv_bytes _ rfl _ _ rfl Cv.u_string Cv.u_byte s rfl (by unfold maxLen; omega) ?_; intro g1 cap1 w1 hc1 hg1 ho1))
  refine (radd_at w1 _ _ (nums s) hc1.read).mono ?_
  rintro e w2 ⟨rfl, rfl⟩
  go_wp2_with (first
    | (refine wpList_conv_bytes _ rfl _ _ rfl Cv.u_string Cv.u_byte s rfl (by unfold maxLen; omega) ?_; intro g2 cap2 w2 hc2 hg2 ho2)
    | (at_builtin; refine wpList_append_conv _ rfl _ _ rfl g2 cap2 _ (nums s) rfl rfl (hc2.keeps ((Only.refl NoBlock _).alloc _) (fun h => h)) ⟨w2.heap.size, 0, none⟩ 4 4 (Wal.be4 (Crc.add 0 (nums s))) rfl rfl (four_cells _ _ _ _ rfl) hbe (by omega) (Wal.raw (nums s)) rfl ?_; intro ao cap3 w3 hb3 ho3 hc3 hcm3))
  refine (rencode_at w3 _ _ (Wal.raw (nums s)) hb3 hc3 hcm3 (by omega)).mono ?_
  rintro e w4 ⟨v, rfl, hb4, ho4⟩
  obtain ⟨ao4, cap4, rfl⟩ := Bts.shape' hb4
  have hsz : (textOf (Stuff.enc (Wal.raw (nums s)))).size ≤ 2000000009 := by rw [textOf_size]; omega
  have HZ := Lib.hid (textOf_zero (Stuff.enc (Wal.raw (nums s))))
  go_wp2_with (first
    | (refine wpList_conv_text _ rfl _ _ rfl Cv.u_string Cv.u_byte ao4 _ cap4 (Stuff.enc (Wal.raw (nums s))) ?_ rfl (Bts.read hb4 (Stuff.enc_byte (Wal.raw_byte (nums_byte s)))) ?_; (rfl)))
  go_ret
  have h3 : Only NoBlock w w3 := ((ho1.trans ho2).alloc _).andThen ho3 (fun i hi e => by have := ho1.size; omega)
  exact ⟨by rw [Wal.frame, ← HZ.out]; rfl, h3.trans ho4⟩

namespace Wal
def firstT (r : List Int) : ByteArray := match first r with | none => ⟨#[]⟩ | some (x, _) => textOf x
def firstN (r : List Int) : Nat := match first r with | none => 0 | some (_, n) => n
theorem first_none {r : List Int} (h : first r = none) : firstT r = ⟨#[]⟩ ∧ firstN r = 0 := by unfold firstT firstN; rw [h]; exact ⟨rfl, rfl⟩
theorem first_some {r x : List Int} {n : Nat} (h : first r = some (x, n)) : firstT r = textOf x ∧ firstN r = n := by unfold firstT firstN; rw [h]; exact ⟨rfl, rfl⟩
end Wal

set_option maxRecDepth 100000 in
set_option maxHeartbeats 2000000 in
theorem rfirst_at (w : World) (s : ByteArray) (hs : s.size ≤ 1000000000) :
    Calls Try.prog 90 #[.string s] w fun e w' => e = .returned (.tuple #[.string (Wal.firstT (nums s)), .int .i64 (Wal.firstN (nums s) : Nat)]) ∧ Only NoBlock w w' := by
  have hl : (nums s).length = s.size := nums_length s
  have HL := Lib.hid hl
  clear hl
  have HW : RowKit.Hid (Wal.Byte (nums s)) := Lib.hid (nums_byte s)
  go_enter Try.func90, Try.ntmps90
  go_wp2_with fail
  go_loop [4] (fun i => ∃ k : Nat, k ≤ s.size ∧ i = .int .i64 k ∧ RowKit.Hid (Sc.Clear (nums s) k)) (fun i => s.size - (intOf i).toNat)
  case atStart => exact ⟨0, by omega, rfl, Lib.hid (Sc.Clear.start _)⟩
  case round =>
    obtain ⟨k, hk, rfl, HC⟩ := hrel
    by_cases hlt : k < s.size
    · have hg := nums_get s k hlt
      by_cases hc : (nums s).getD k 0 = 0
      · have hz0 : Stuff.zero (nums s) = k := HC.out.zero (by rw [HL.out]; exact hlt) hc
        have htry := Wal.first_try HW.out
        rw [hz0, if_neg (by rw [HL.out]; omega)] at htry
        have HT := Lib.hid htry
        clear htry hz0
        have hb0 : (((s[k]'hlt).toNat : Int) != 0) = false := by rw [← hg, hc]; rfl
        clear hc hg
        go_wp2_with (first
          | (refine wpList_conv_bytes _ rfl _ _ rfl Cv.u_string Cv.u_byte (s.extract 0 k) rfl ?_ ?_; (simp; unfold maxLen; omega); intro g2 cap2 w2 hc2 hg2 ho2))
        have hne : nums (s.extract 0 k) = (nums s).take k := by rw [nums_extract]; rfl
        have hnl : (nums (s.extract 0 k)).length = k := by rw [nums_length]; simp; omega
        have HN := Lib.hid hne
        have HM := Lib.hid hnl
        have hnl1 : (nums (s.extract 0 k)).length ≤ k := by omega
        clear hne hnl
        generalize nums (s.extract 0 k) = q at hc2 HN HM hnl1 ⊢
        refine (rdecode_at w2 _ _ q hc2.read hc2.1 hc2.2.1 (by omega)).mono ?_
        rintro e w3 ⟨v, rfl, hb3, ho3⟩
        cases hdec : Stuff.dec q with
        | none =>
          rw [show decE none = 2 from rfl]
          have hst : Wal.first (nums s) = none := by rw [HT.out, ← HN.out, hdec]
          have HS := Lib.hid (Wal.first_none hst)
          clear hst hdec
          go_wp2_with fail
          go_ret2
          exact ⟨by rw [HS.out.1, HS.out.2]; rfl, ho2.trans ho3⟩
        | some b =>
          rw [show decE (some b) = 0 from rfl]
          rw [hdec] at hb3
          replace hb3 : Bts w3 w2.heap.size v b := hb3
          have HD := Lib.hid hdec
          clear hdec
          have hst2 : Wal.first (nums s) = if b.length < 4 ∨ 65540 < b.length then none else if Wal.frame (Wal.body b) = (nums s).take (k + 1) then some (Wal.body b, k + 1) else none := by rw [HT.out, ← HN.out, HD.out]
          have HS2 := Lib.hid hst2
          clear hst2
          have hbw : Wal.Byte b := Wal.dec_byte hc2.2.2.1 HD.out
          have hO : Only NoBlock w w3 := ho2.trans ho3
          obtain ⟨ao, cap, rfl⟩ := Bts.shape' hb3
          have hcaps := Bts.caps hb3
          have hbi := hb3.read hbw
          by_cases hb4 : b.length < 4
          · have HS := Lib.hid (Wal.first_none (HS2.out.trans (if_pos (.inl hb4))))
            go_wp2_with fail
            go_ret2
            exact ⟨by rw [HS.out.1, HS.out.2]; rfl, hO⟩
          · by_cases hb5 : 65540 < b.length
            · have HS := Lib.hid (Wal.first_none (HS2.out.trans (if_pos (.inr hb5))))
              have hd4 : decide ((b.length : Int) < 4) = false := by simp; omega
              have hd5 : decide ((65540 : Int) < (b.length : Int)) = true := by simp; omega
              clear hb4 hb5
              go_wp2_with fail
              go_ret2
              exact ⟨by rw [HS.out.1, HS.out.2]; rfl, hO⟩
            · have hst3 := HS2.out
              rw [if_neg (by omega)] at hst3
              have HS3 := Lib.hid hst3
              clear hst3 HS2
              obtain ⟨m, hm⟩ : ∃ m, b.length = m + 4 := ⟨b.length - 4, by omega⟩
              have hbl : (Wal.body b).length = m := by unfold Wal.body; rw [List.length_take]; omega
              have hbk : Wal.body b = b.take m := by unfold Wal.body; rw [hm]; rfl
              have hbt : nums (textOf (Wal.body b)) = Wal.body b := nums_textOf (hbw.take _)
              have hts : (textOf (Wal.body b)).size ≤ 1000000000 := by rw [textOf_size, hbl]; omega
              have HBT := Lib.hid hbt
              have hbi2 : BytesIn w3 ao (Wal.body b) := by rw [hbk]; exact hbi.take m
              have hm5 : m + 4 ≤ cap := by omega
              have hm6 : m ≤ 65536 := by omega
              have hd4 : decide ((m : Int) + 4 < 4) = false := by simp; omega
              have hd5 : decide ((65540 : Int) < (m : Int) + 4) = false := by simp; omega
              have HB := Lib.hid hbl
              rw [hm]
              clear hb4 hb5 hbt hbk hm hbl hcaps
              generalize Wal.body b = x at *
              go_upto_region 10 with (first
                | (refine wpList_conv_text _ rfl _ _ rfl Cv.u_string Cv.u_byte ao m cap x ?_ HB.out.symm hbi2 ?_; (rfl)))
              have hk1 : (0 : Int) ≤ (k : Int) + 1 := by omega
              have hk2 : (k : Int) + 1 ≤ (s.size : Int) := by omega
              have hwr : IntKind.i64.wrap ((k : Int) + 1) = (k : Int) + 1 := IntWalk.i64_in _ (by omega)
              go_region_with (first
                | (go_at_call 9; refine (rframe_at _ _ hts).mono ?_; rw [HBT.out]; rintro e w4 ⟨rfl, ho4⟩))
              all_goals
                have hO4 : Only NoBlock w w4 := hO.drew.trans ho4
                have hex : nums (s.extract 0 (k + 1)) = (nums s).take (k + 1) := by rw [nums_extract]; rfl
                by_cases he : Wal.frame x = (nums s).take (k + 1)
                · have HS := Lib.hid (Wal.first_some (HS3.out.trans (if_pos he)))
                  have hnb : (!(textOf (Wal.frame x)).toList == (s.extract 0 (k + 1)).toList) = false := by rw [he, ← hex, textOf_nums]; simp
                  rw [hnb]
                  clear hex he
                  go_wp2_with fail
                  go_ret2
                  exact ⟨by rw [HS.out.1, HS.out.2]; rfl, hO4⟩
                · have HS := Lib.hid (Wal.first_none (HS3.out.trans (if_neg he)))
                  have hne : textOf (Wal.frame x) ≠ s.extract 0 (k + 1) := by
                    intro e
                    apply he
                    rw [← hex, ← e, nums_textOf]
                    exact Wal.frame_byte (HBT.out ▸ nums_byte _)
                  have hnb := ba_ne hne
                  rw [hnb]
                  clear hex he hne
                  go_wp2_with fail
                  go_ret2
                  exact ⟨by rw [HS.out.1, HS.out.2]; rfl, hO4⟩
      · have HC' := Lib.hid (HC.out.step (by rw [HL.out]; exact hlt) hc)
        have hb0 : (((s[k]'hlt).toNat : Int) != 0) = true := by rw [← hg]; simpa using hc
        clear hc hg
        go_wp2_with fail
        go_round
        case rel => exact ⟨k + 1, by omega, by go_num, HC'⟩
        case measure => simp [intOf]; omega
    · have e : k = s.size := by omega
      subst e
      have HS := Lib.hid (Wal.first_none (HC.out.full (by rw [HL.out])))
      go_wp2_with fail
      go_ret2
      exact ⟨by rw [HS.out.1, HS.out.2]; rfl, Only.refl _ _⟩

set_option maxRecDepth 100000 in
set_option maxHeartbeats 2000000 in
theorem rscan_at (w : World) (s : ByteArray) (hs : s.size ≤ 1000000000) :
    Calls Try.prog 69 #[.string s] w fun e w' => ∃ v, e = .returned (.tuple #[v, .int .i64 (Wal.scan (nums s)).2]) ∧ Strs w' w.heap.size v ((Wal.scan (nums s)).1.map textOf) ∧ Only NoBlock w w' := by
  have hl : (nums s).length = s.size := nums_length s
  have HL := Lib.hid hl
  clear hl
  go_enter Try.func69, Try.ntmps69
  go_wp2_with fail
  go_loopw [4, 5] (fun v4 v5 wr => ∃ (at' : Nat) (done : List (List Int)), at' ≤ s.size ∧ done.length ≤ at' ∧ v5 = .int .i64 at' ∧ Strs wr w.heap.size v4 (done.map textOf) ∧ Only NoBlock w wr ∧ RowKit.Hid (Sc.At (nums s) at' done)) (fun _ v5 _ => s.size - (intOf v5).toNat)
  case atStart => exact ⟨0, [], by omega, by simp, rfl, Strs.nil _ _, Only.refl _ _, Lib.hid (Sc.At.start _)⟩
  case round =>
    obtain ⟨at', done, ha, hdl, rfl, hrow, ho, HA⟩ := hrel
    have hz := ho.size
    have hex : nums (s.extract at' s.size) = (nums s).drop at' := by
      rw [nums_extract, List.take_of_length_le]
      rw [List.length_drop, HL.out]
      omega
    have HEX := Lib.hid hex
    clear hex
    have hss : (s.extract at' s.size).size ≤ 1000000000 := by simp; omega
    go_wp2_with fail
    refine (rfirst_at wr _ hss).mono ?_
    rw [HEX.out]
    rintro e w2 ⟨rfl, ho2⟩
    have hO := ho.trans ho2
    have hrow2 := hrow.keeps ho2 (fun _ _ h => h)
    have hz2 := hO.size
    cases hf : Wal.first ((nums s).drop at') with
    | none =>
      have h1 := Wal.first_none hf
      rw [h1.1, h1.2]
      have HS := Lib.hid (HA.out.stop hf)
      clear h1 hf
      go_wp2_with fail
      try rw [Exit.noGoto_ret]
      go_ret2
      exact ⟨_, by rw [HS.out]; rfl, by rw [HS.out]; exact hrow2, hO⟩
    | some xn =>
      obtain ⟨x, n⟩ := xn
      have h1 := Wal.first_some hf
      rw [h1.1, h1.2]
      have hp := Wal.first_pos hf
      rw [List.length_drop, HL.out] at hp
      obtain ⟨hp1, hp2⟩ := hp
      have HS := Lib.hid (HA.out.step hf)
      clear h1 hf
      have hnz : ((n : Int) == 0) = false := by simp; omega
      go_wp2_with (first
        | (at_builtin; refine wpList_append_str _ rfl _ _ rfl w.heap.size _ (done.map textOf) (textOf x) ⟨w2.heap.size, 0, none⟩ 1 rfl (hrow2.keeps ((Only.refl NoBlock _).alloc _) (fun _ _ h => h)) rfl ?_ ?_ ?_ ?_; (exact cell_str _ _ _ _ rfl); (simp; omega); (simp; omega); intro v' w3 hb3 hg3))
      go_roundw
      case rel =>
        refine ⟨at' + n, done ++ [x], by omega, by simp; omega, by go_num, by rw [List.map_append]; exact hb3, (hO.alloc _).appended (hrow2.keeps ((Only.refl NoBlock _).alloc _) (fun _ _ h => h)) (Nat.le_refl _) hg3, HS⟩
      case measure => simp [intOf]; omega

end Go.Proofs.Ytekmjhenhgmpgaa
