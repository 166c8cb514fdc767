/- The document's stuffing and sum: what they answer is what the plain lists say. -/
import Derived.Test.YtfmpmdkedpollaaRplain5
import Derived.Test.YtfmpmdkedpollaaScan
import Derived.Test.YtfmpmdkedpollaaAppTexts
import Derived.Test.YtfmpmdkedpollaaSliceW
namespace Go.Proofs.Ytfmpmdkedpollaa
open Go.RowKit

namespace By
theorem u_elem : Try.prog.underlying 46 = some (.slice (Try.prog.elem 46)) := by kernel_rfl
theorem e_elem : Try.prog.elem 46 = 5 := by kernel_rfl
theorem z_elem (w : World) : (sizeOf (Try.prog.elem 46)).run Try.prog w = .ok 1 w := by
  obtain ⟨i, hi, hz, hsz, hby⟩ := info_parts By.info
  rw [e_elem]
  simp [sizeOf, typeInfo, hi, hsz]
end By
theorem BytesIn.nil (w : World) (ao : Option Addr) : BytesIn w ao [] := ⟨by simp, by unfold maxLen; simp, fun i hi => by simp at hi⟩
theorem BytesIn.cutAddr {w : World} {ao : Option Addr} {r : List Int} {cap : Nat} (h : BytesIn w ao r) (hc : r.length ≤ cap) (k : Nat) : BytesIn w (cutAddr ao k cap 1) (r.drop k) := by
  by_cases hk : k < r.length
  · obtain ⟨b, off, rfl, _⟩ := h.cell k hk
    have := h.drop k
    unfold Go.Proofs.Ytfmpmdkedpollaa.cutAddr
    rw [if_neg (by omega), Option.map_some, Addr.add_lit, Nat.mul_one]
    exact this
  · rw [List.drop_eq_nil_iff.2 (by omega)]
    exact BytesIn.nil _ _

section
variable {ops : Array Oper} {rest : List Oper} {o : Oper} {a : Act} {Q : Exit → Act → World → Prop}
theorem wpList_cut_l (w w0 : World) (hg : o.guard = none) (x l : Operand) (ho : o.op = .slice 46 x (some l) none none) (ao : Option Addr) (r : List Int) (cap k : Nat) (kk : IntKind) (xl : Int) (n : Nat) (hx : a.eval x = .slice ao n cap) (hl : a.eval l = .int kk xl) (hxl : xl = k) (hn : n = r.length) (hb : BytesIn w0 ao r) (hc : r.length ≤ cap) (hk : k ≤ r.length)
    (h : ∀ ao', BytesIn w0 ao' (r.drop k) → wpList Try.prog ops Q rest (a.put o.dst (.slice ao' (r.length - k) (cap - k))) w) : wpList Try.prog ops Q (o :: rest) a w := by
  subst hn hxl
  exact wpList_slice_l w hg _ x l ho 1 By.u_elem By.z_elem ao _ cap k kk hx hl hk (h _ (hb.cutAddr hc k))
theorem wpList_cut_h (w : World) (hg : o.guard = none) (x u : Operand) (ho : o.op = .slice 46 x none (some u) none) (ao : Option Addr) (cap k : Nat) (kk : IntKind) (xl : Int) (n : Nat) (hx : a.eval x = .slice ao n cap) (hl : a.eval u = .int kk xl) (hxl : xl = k) (hk : k ≤ cap)
    (h : wpList Try.prog ops Q rest (a.put o.dst (.slice ao k cap)) w) : wpList Try.prog ops Q (o :: rest) a w := by
  subst hxl
  exact wpList_slice_h w hg _ x u ho 1 By.u_elem By.z_elem ao _ cap k kk hx hl hk h
theorem wpList_cut_lh (w w0 : World) (hg : o.guard = none) (x l u : Operand) (ho : o.op = .slice 46 x (some l) (some u) none) (ao : Option Addr) (r : List Int) (cap k m : Nat) (kk km : IntKind) (xl xu : Int) (n : Nat) (hx : a.eval x = .slice ao n cap) (hl : a.eval l = .int kk xl) (hu : a.eval u = .int km xu) (hxl : xl = k) (hxu : xu = m) (hb : BytesIn w0 ao r) (hc : r.length ≤ cap) (hk : k ≤ m) (hm : m ≤ r.length)
    (h : ∀ ao', BytesIn w0 ao' ((r.drop k).take (m - k)) → wpList Try.prog ops Q rest (a.put o.dst (.slice ao' (m - k) (cap - k))) w) : wpList Try.prog ops Q (o :: rest) a w := by
  subst hxl hxu
  exact wpList_slice_lh w hg _ x l u ho 1 By.u_elem By.z_elem ao _ cap k m kk km hx hl hu hk (by omega) (h _ ((hb.cutAddr hc k).take _))
end

section
variable {ops : Array Oper} {rest : List Oper} {o : Oper} {a : Act} {Q : Exit → Act → World → Prop}
/-- 'append' of a row of bytes to a row of the call's own -/
theorem wpList_append_bts (w : World) (hgd : o.guard = none) (s x : Operand) (ho : o.op = .call { callee := .builtin .append, args := #[s, x], argTypes := #[46, 46] })
    (base : Nat) (v : Value) (l m : List Int) (ao : Option Addr) (k n : Nat) (hs : a.eval s = v) (hown : Bts w base v l) (hx : a.eval x = .slice ao k n) (hk : k = m.length) (hm : BytesIn w ao m)
    (hlen : l.length + m.length ≤ 140737488355328) (hbase : base ≤ w.heap.size)
    (h : ∀ v' w', Bts w' base v' (l ++ m) → w.grownBy w' v.ownBlock → wpList Try.prog ops Q rest (a.put o.dst v') w') : wpList Try.prog ops Q (o :: rest) a w := by
  subst hk
  obtain ⟨i, hi, hz, hsz, hby⟩ := info_parts By.info
  refine wpList_plain hgd fun K hK => ?_
  unfold Oper.wp execOp
  simp only [ho, resolve, invoke, builtin, Sem.run_bind, Sem.run_pure, Result.andThen_ok, List.map_toArray, List.map_cons, List.map_nil, hs, hx]
  cases ao with
  | none =>
    have hm0 : m = [] := by
      cases m with
      | nil => rfl
      | cons y r => obtain ⟨b, off, e, _⟩ := hm.cell 0 (by simp); cases e
    subst hm0
    rw [show ([] : List Int).length = 0 from rfl, append_nothing base 46 o.type 5 i 1 By.u_bytes hi v l.length _ hown n]
    exact hK _ _ (h v w (by rw [List.append_nil]; exact hown) ⟨rfl, rfl, rfl, Nat.le_refl _, fun _ _ _ => rfl⟩)
  | some ad =>
    obtain ⟨v', w', hr, h2, h3, _, h5⟩ := run_append_own_at (P := Try.prog) w base 46 o.type 5 i (.int .u8 0) 1 1 By.u_bytes hi hz hsz hby rfl (by decide) v l.length _ hown ad m.length n (m.map (Value.int .u8)) (by simp) (by
      intro j u hj
      have hj' : j < m.length := by have := (List.getElem?_eq_some_iff.1 hj).1; simpa using this
      obtain ⟨b, off, e, hc⟩ := hm.cell j hj'
      cases e
      rw [List.getElem?_map, List.getElem?_eq_getElem hj'] at hj
      cases hj
      rw [Addr.add_lit, hc, List.getD_eq_getElem?_getD, List.getElem?_eq_getElem hj']
      rfl) (by
      intro u hu
      obtain ⟨y, _, rfl⟩ := List.mem_map.1 hu
      rfl) (by unfold maxLen; omega) (by omega) hbase
    rw [hr]
    refine hK _ _ (h v' w' ?_ h3)
    unfold Bts
    simpa using h2
end

/-! ### the sum -/
theorem rhalf_at (w : World) (x : Int) (hx : Crc.U x) :
    Calls Try.prog 52 #[.int .u32 x] w fun e w' => e = .returned (.int .u32 (Crc.half x)) ∧ w = w' := by
  obtain ⟨h0, h1⟩ := hx
  have ht : x.tmod 2 = x % 2 := Int.tmod_eq_emod_of_nonneg h0
  have hd : x.tdiv 2 = x / 2 := Int.tdiv_eq_ediv_of_nonneg h0
  unfold Crc.half
  by_cases ho : x % 2 = 1
  · rw [if_pos ho]
    have ht1 : x.tmod 2 = 1 := by omega
    clear ht
    go_enter Try.func52, Try.ntmps52
    go_wp2_with fail
    go_ret
    exact ⟨by rw [← hd]; rfl, rfl⟩
  · rw [if_neg ho]
    have ht1 : x.tmod 2 = 0 := by omega
    clear ht
    go_enter Try.func52, Try.ntmps52
    go_wp2_with fail
    go_ret
    exact ⟨by rw [← hd]; rfl, rfl⟩

set_option maxHeartbeats 1000000 in
theorem radd_at (w : World) (ao : Option Addr) (cap : Nat) (l : List Int) (hl : BytesIn w ao l) :
    Calls Try.prog 38 #[.int .u32 0, .slice ao l.length cap] w fun e w' => e = .returned (.int .u32 (Crc.add 0 l)) ∧ w = w' := by
  have hlm := hl.len
  unfold maxLen at hlm
  have hs' := Crc.not_U (x := 0) (by constructor <;> decide)
  go_enter Try.func38, Try.ntmps38
  go_wp2_with fail
  go_loop [5, 6] (fun v5 i => ∃ k : Nat, k ≤ l.length ∧ i = .int .i64 k ∧ v5 = .int .u32 (Crc.sum (4294967295 - 0) (l.take k))) (fun _ i => l.length - (intOf i).toNat)
  case atStart => exact ⟨0, by omega, rfl, rfl⟩
  case round =>
    obtain ⟨k, hk, rfl, rfl⟩ := hrel
    by_cases hlt : k < l.length
    · obtain ⟨b, off, rfl, hcell⟩ := hl.cell k hlt
      have hmem : l.getD k 0 ∈ l := by rw [List.getD_eq_getElem?_getD, List.getElem?_eq_getElem hlt]; exact List.getElem_mem hlt
      have hw := hl.wf _ hmem
      have hst := Crc.sum_step (4294967295 - 0) l k hlt
      have HST := Lib.hid hst
      clear hst hmem
      generalize l.getD k 0 = c at hcell hw HST
      generalize Crc.sum (4294967295 - 0) (l.take k) = x at HST ⊢
      go_wp2_with fail
      have hx0 := Crc.xor_u x c
      obtain ⟨x0, HX⟩ : ∃ x0, RowKit.Hid (bits .xor .u32 x c = x0) := ⟨_, Lib.hid rfl⟩
      rw [HX.out] at hx0 ⊢
      go_loop [5, 7] (fun v5 i => ∃ j : Nat, j ≤ 8 ∧ i = .int .i64 j ∧ v5 = .int .u32 (Crc.halfs j x0)) (fun _ i => 8 - (intOf i).toNat)
      case atStart => exact ⟨0, by omega, rfl, rfl⟩
      case round =>
        obtain ⟨j, hj, rfl, rfl⟩ := hrel
        by_cases hj8 : j < 8
        · have hu := Crc.halfs_u hx0 j
          go_wp2_with fail
          refine (rhalf_at w _ hu).mono ?_
          rintro e w1 ⟨rfl, rfl⟩
          go_wp2_with fail
          go_round
          case rel => exact ⟨j + 1, by omega, by go_num, rfl⟩
          case measure => simp [intOf]; omega
        · have e : j = 8 := by omega
          subst e
          go_wp2_with fail
          go_round
          case rel => exact ⟨k + 1, by omega, by go_num, by rw [HST.out]; unfold Crc.byte; rw [HX.out]⟩
          case measure => simp [intOf]; omega
    · have e : k = l.length := by omega
      subst e
      have hu := Crc.sum_u hs' l
      obtain ⟨hu0, hu1⟩ := hu
      rw [List.take_length]
      have HA : RowKit.Hid (Crc.add 0 l = 4294967295 - Crc.sum (4294967295 - 0) l) := Lib.hid rfl
      generalize Crc.sum (4294967295 - 0) l = x at hu0 hu1 HA ⊢
      go_wp2_with fail
      go_ret
      exact ⟨by rw [HA.out]; rfl, rfl⟩

/-! ### the stuffing -/
theorem rzero_at (w : World) (ao : Option Addr) (cap : Nat) (l : List Int) (hl : BytesIn w ao l) :
    Calls Try.prog 53 #[.slice ao l.length cap] w fun e w' => e = .returned (.int .i64 (Stuff.zero l : Nat)) ∧ w = w' := by
  have hlm := hl.len
  unfold maxLen at hlm
  go_enter Try.func53, Try.ntmps53
  go_wp2_with fail
  go_loop [3] (fun i => ∃ k : Nat, k ≤ l.length ∧ i = .int .i64 k ∧ RowKit.Hid (Sc.Clear l k)) (fun i => l.length - (intOf i).toNat)
  case atStart => exact ⟨0, by omega, rfl, Lib.hid (Sc.Clear.start _)⟩
  case round =>
    obtain ⟨k, hk, rfl, HC⟩ := hrel
    by_cases hlt : k < l.length
    · obtain ⟨b, off, rfl, hcell, hc0, hc1⟩ := hl.at hlt
      by_cases hz : l.getD k 0 = 0
      · have hzz := HC.out.zero hlt hz
        have HZ := Lib.hid hzz
        clear hzz
        rw [hz] at hcell
        clear hz hc0 hc1
        go_wp2_with fail
        go_ret
        exact ⟨by rw [HZ.out]; rfl, rfl⟩
      · have HC' := Lib.hid (HC.out.step hlt hz)
        generalize l.getD k 0 = c at hcell hc0 hc1 hz
        have hzb : (c == 0) = false := by simpa using hz
        clear hz
        go_wp2_with fail
        go_round
        case rel => exact ⟨k + 1, by omega, by go_num, HC'⟩
        case measure => simp [intOf]; omega
    · have e : k = l.length := by omega
      subst e
      have hzz : Stuff.zero l = l.length := Stuff.zero_all (by have := HC.out; unfold Sc.Clear at this; rwa [List.take_length] at this)
      have HZ := Lib.hid hzz
      clear hzz
      go_wp2_with fail
      go_ret
      exact ⟨by rw [HZ.out]; rfl, rfl⟩

set_option maxRecDepth 100000 in
set_option maxHeartbeats 2000000 in
theorem rencode_at (w : World) (ao : Option Addr) (cap : Nat) (l : List Int) (hl : BytesIn w ao l) (hcap : l.length ≤ cap) (hcm : cap ≤ maxLen) (hlen : l.length ≤ 70000000000000) :
    Calls Try.prog 39 #[.slice ao l.length cap] w fun e w' => ∃ v, e = .returned v ∧ Bts w' w.heap.size v (Stuff.enc l) ∧ Only NoBlock w w' := by
  have hel := Stuff.enc_long l
  unfold maxLen at hcm
  go_enter Try.func39, Try.ntmps39
  go_wp2_with fail
  go_loopw [0, 3] (fun v0 v3 wr => ∃ (ao' : Option Addr) (cap' : Nat) (r out : List Int), v0 = .slice ao' r.length cap' ∧ BytesIn w ao' r ∧ r.length ≤ cap' ∧ cap' ≤ 2 ^ 63 - 1 ∧ Bts wr w.heap.size v3 out ∧ Only NoBlock w wr ∧
      r.length ≤ l.length ∧ out.length + (Stuff.enc r).length ≤ 2 * l.length + 1 ∧ RowKit.Hid (Stuff.enc l = out ++ Stuff.enc r)) (fun v0 _ _ => match v0 with | .slice _ n _ => n | _ => 0)
  case atStart => exact ⟨ao, cap, l, [], rfl, hl, hcap, hcm, Bts.nil _ _, Only.refl _ _, Nat.le_refl _, by simpa using hel, Lib.hid rfl⟩
  case round =>
    obtain ⟨ao', cap', r, out, rfl, hb, hrc, hcm', hout, ho, hrl, hsz, HE⟩ := hrel
    have hz := ho.size
    have hzl := Stuff.zero_le r
    go_wp2_with fail
    refine (rzero_at wr ao' cap' r (hb.keeps ho (fun _ _ h => h))).mono ?_
    rintro e w1 ⟨rfl, rfl⟩
    have hbr := hb.keeps ho (fun _ _ h => h)
    by_cases hf : 254 ≤ Stuff.zero r
    · have hef := Stuff.enc_full hf
      have hsz2 : out.length + 1 + 254 + (Stuff.enc (r.drop 254)).length ≤ 2 * l.length + 1 := by
        rw [hef] at hsz; simp at hsz; omega
      have HE' : RowKit.Hid (Stuff.enc l = (out ++ [255]) ++ r.take 254 ++ Stuff.enc (r.drop 254)) := Lib.hid (by rw [HE.out, hef]; simp)
      have htl : (r.take 254).length = 254 := by rw [List.length_take]; omega
      have HTL := Lib.hid htl
      clear htl
      clear hef hsz HE
      have hr0 : 254 ≤ r.length := by omega
      obtain ⟨b, off, rfl, _⟩ := hb.cell 0 (by omega)
      have hbd := hb.drop 254
      generalize Stuff.zero r = n at hf hzl ⊢
      have htk := (hbr.take 254)
      go_upto_region 4 with fail
      go_upto_region 5 with (first
          | (at_builtin; refine wpList_append_byte _ rfl _ _ rfl w.heap.size _ out 255 ⟨wr.heap.size, 0, none⟩ 1 rfl (hout.keeps ((Only.refl NoBlock _).alloc _) (fun _ _ h => h)) rfl ?_ ?_ ?_ ?_; (exact cell_byte _ _ _ _ rfl); omega; (simp; omega); intro v' w2 hb2 hg2; have ho2 := (ho.alloc _).appended (hout.keeps ((Only.refl NoBlock _).alloc _) (fun _ _ h => h)) (Nat.le_refl _) hg2))
      go_upto_region 6 with (first
          | (refine wpList_cut_h _ rfl _ _ rfl _ cap' 254 _ _ _ rfl rfl rfl (by omega) ?_)
          | (at_builtin; refine wpList_append_bts _ rfl _ _ rfl w.heap.size _ (out ++ [255]) (r.take 254) _ _ _ rfl hb2 rfl ?_ ?_ ?_ ?_ ?_; (rw [HTL.out]); (exact (hb.keeps ho2 (fun _ _ h => h)).take 254); (rw [HTL.out]; simp; omega); (have := ho2.size; omega); intro v' w3 hb3 hg3; have ho3 := ho2.appended hb2 (Nat.le_refl _) hg3))
      clear ho hout hg2 hb2 hg3 hbr htk
      go_wp2_with (first
          | (refine wpList_cut_l _ w rfl _ _ rfl _ r cap' 254 _ _ _ rfl rfl rfl rfl hb hrc (by omega) ?_; intro ao' hb'))
      have hdl : (r.drop 254).length = r.length - 254 := List.length_drop
      exact ⟨⟨ao', cap' - 254, r.drop 254, _, by rw [hdl], hb', by omega, by omega, hb3, ho3, by omega, by rw [List.length_append, HTL.out, List.length_append]; simp only [List.length_singleton]; omega, HE'⟩, by simp; omega⟩
    · by_cases hend : Stuff.zero r = r.length
      · have hel' := Stuff.enc_last (b := r) (by omega) hend
        have HE' : RowKit.Hid (Stuff.enc l = (out ++ [(r.length : Int) + 1]) ++ r) := Lib.hid (by rw [HE.out, hel']; simp)
        have hsz2 : out.length + 1 + r.length ≤ 2 * l.length + 1 := by rw [hel'] at hsz; simp at hsz; omega
        rw [hend]
        rw [hend] at hf
        clear hel' hsz HE hend hzl
        have htk : BytesIn w ao' (r.take r.length) := hb.take _
        rw [List.take_length] at htk
        go_upto_region 7 with fail
        go_upto_region 8 with (first
          | (at_builtin; refine wpList_append_byte _ rfl _ _ rfl w.heap.size _ out ((r.length : Int) + 1) ⟨wr.heap.size, 0, none⟩ 1 rfl (hout.keeps ((Only.refl NoBlock _).alloc _) (fun _ _ h => h)) rfl ?_ ?_ ?_ ?_; (exact cell_byte _ _ _ _ rfl); omega; (simp; omega); intro v' w2 hb2 hg2; have ho2 := (ho.alloc _).appended (hout.keeps ((Only.refl NoBlock _).alloc _) (fun _ _ h => h)) (Nat.le_refl _) hg2))
        go_upto_region 9 with (first
          | (refine wpList_cut_h _ rfl _ _ rfl _ cap' r.length _ _ _ rfl rfl rfl hrc ?_)
          | (at_builtin; refine wpList_append_bts _ rfl _ _ rfl w.heap.size _ (out ++ [(r.length : Int) + 1]) r _ _ _ rfl hb2 rfl rfl ?_ ?_ ?_ ?_; (exact hb.keeps ho2 (fun _ _ h => h)); (simp; omega); (have := ho2.size; omega); intro v' w3 hb3 hg3; have ho3 := ho2.appended hb2 (Nat.le_refl _) hg3))
        go_wp2_with fail
        go_ret
        exact ⟨_, rfl, by rw [HE'.out]; exact hb3, ho3⟩
      · have hel' := Stuff.enc_piece (b := r) (by omega) (by omega)
        have HE' : RowKit.Hid (Stuff.enc l = (out ++ [((Stuff.zero r : Nat) : Int) + 1]) ++ r.take (Stuff.zero r) ++ Stuff.enc (r.drop (Stuff.zero r + 1))) := Lib.hid (by rw [HE.out, hel']; simp)
        have hsz2 : out.length + 1 + Stuff.zero r + (Stuff.enc (r.drop (Stuff.zero r + 1))).length ≤ 2 * l.length + 1 := by rw [hel'] at hsz; simp at hsz; omega
        have htl : (r.take (Stuff.zero r)).length = Stuff.zero r := by rw [List.length_take]; omega
        have HTL := Lib.hid htl
        clear hel' hsz HE htl
        have htk : BytesIn w ao' (r.take (Stuff.zero r)) := hb.take _
        generalize Stuff.zero r = n at *
        have hne : ((n : Int) == (r.length : Int)) = false := by simp; omega
        go_upto_region 7 with fail
        go_upto_region 8 with (first
          | (at_builtin; refine wpList_append_byte _ rfl _ _ rfl w.heap.size _ out ((n : Int) + 1) ⟨wr.heap.size, 0, none⟩ 1 rfl (hout.keeps ((Only.refl NoBlock _).alloc _) (fun _ _ h => h)) rfl ?_ ?_ ?_ ?_; (exact cell_byte _ _ _ _ rfl); omega; (simp; omega); intro v' w2 hb2 hg2; have ho2 := (ho.alloc _).appended (hout.keeps ((Only.refl NoBlock _).alloc _) (fun _ _ h => h)) (Nat.le_refl _) hg2))
        go_upto_region 9 with (first
          | (refine wpList_cut_h _ rfl _ _ rfl _ cap' n _ _ _ rfl rfl rfl (by omega) ?_)
          | (at_builtin; refine wpList_append_bts _ rfl _ _ rfl w.heap.size _ (out ++ [(n : Int) + 1]) (r.take n) _ _ _ rfl hb2 rfl ?_ ?_ ?_ ?_ ?_; (rw [HTL.out]); (exact htk.keeps ho2 (fun _ _ h => h)); (rw [HTL.out]; simp; omega); (have := ho2.size; omega); intro v' w3 hb3 hg3; have ho3 := ho2.appended hb2 (Nat.le_refl _) hg3))
        go_wp2_with (first
          | (refine wpList_cut_l _ w rfl _ _ rfl _ r cap' (n + 1) _ _ _ rfl rfl (by omega) rfl hb hrc (by omega) ?_; intro ao'' hb'))
        have hdl : (r.drop (n + 1)).length = r.length - (n + 1) := List.length_drop
        exact ⟨⟨ao'', cap' - (n + 1), r.drop (n + 1), _, by rw [hdl], hb', by omega, by omega, hb3, ho3, by omega, by rw [List.length_append, HTL.out, List.length_append]; simp only [List.length_singleton]; omega, HE'⟩, by simp; omega⟩

end Go.Proofs.Ytfmpmdkedpollaa
