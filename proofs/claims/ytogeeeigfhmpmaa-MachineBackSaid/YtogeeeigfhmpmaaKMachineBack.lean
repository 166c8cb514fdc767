/- The statement MachineBack: its walk and its frame. -/
import Derived.Test.YtogeeeigfhmpmaaME
import Derived.Test.YtogeeeigfhmpmaaRows
import Derived.SizedLaws
import Derived.WalkKit
import Derived.ProofKit
import Derived.OpenShut
import Derived.ShutString
import Derived.ChangeOld
import Derived.Below

/- What is saved is loaded as the same machine, which goes on the same: the walk of the law. -/
namespace Go.Proofs.Ytogeeeigfhmpmaa
open Go.RowKit
set_option maxRecDepth 100000

namespace Bk
theorem u_elem : Try.prog.underlying 41 = some (.slice (Try.prog.elem 41)) := by kernel_rfl
theorem e_elem : Try.prog.elem 41 = 9 := by kernel_rfl
theorem info : (Try.prog.info? 9).map (fun i => (i.zero, i.size, i.bytes)) = some (some (.string ⟨#[]⟩), 1, 16) := by kernel_rfl
theorem z_elem (w : World) : (sizeOf (Try.prog.elem 41)).run Try.prog w = .ok 1 w := by
  obtain ⟨i, hi, hz, hsz, hby⟩ := info_parts Bk.info
  rw [e_elem]
  simp [sizeOf, typeInfo, hi, hsz]
theorem norm (a : Int) (n : Nat) : ∃ k : Nat, k ≤ n ∧ (a.tmod ((n : Int) + 1) + (n : Int) + 1) % ((n : Int) + 1) = (k : Int) ∧ -((n : Int) + 1) < a.tmod ((n : Int) + 1) ∧ a.tmod ((n : Int) + 1) < (n : Int) + 1 := by
  have hm : (0 : Int) < (n : Int) + 1 := by omega
  have h2 := Int.tmod_lt_of_pos a hm
  have h3 : -((n : Int) + 1) < a.tmod ((n : Int) + 1) := Int.lt_tmod_of_pos a hm
  have h4 := Int.emod_nonneg (a.tmod ((n : Int) + 1) + (n : Int) + 1) (by omega : ((n : Int) + 1) ≠ 0)
  have h5 := Int.emod_lt_of_pos (a.tmod ((n : Int) + 1) + (n : Int) + 1) hm
  exact ⟨((a.tmod ((n : Int) + 1) + (n : Int) + 1) % ((n : Int) + 1)).toNat, by omega, by omega, h3, h2⟩
end Bk
set_option maxHeartbeats 4000000 in
theorem walk_MachineBack {w : World} (a0 : List ByteArray × Option Addr × Nat) (w0 : TextsIn w a0.2.1 a0.1 ∧ a0.1.length ≤ a0.2.2 ∧ a0.2.2 ≤ maxLen) (a1 : Int) (_w1 : (Lit.int .i64 a1).wf = true) :
    Calls Try.prog 5 #[.slice a0.2.1 a0.1.length a0.2.2, .int .i64 a1] w fun e w' => e = .returned (.bool true) ∧ Below w.heap.size w w' := by
  obtain ⟨l, ao, cap⟩ := a0
  obtain ⟨hin, hlc, hcm⟩ := w0
  simp only at hin hlc hcm ⊢
  have hfew := hin.few
  obtain ⟨k, hkn, hk, ht1, ht2⟩ := Bk.norm a1 l.length
  have HK := Lib.hid hk
  clear hk
  go_enter Try.func5, Try.ntmps5
  go_wp2_with fail
  refine (begun17_at w).mono ?_
  rintro e w1 ⟨rfl, hO1⟩
  go_wp2_with fail
  refine (light17_at w1 ao cap l (hin.keeps hO1 (fun _ _ h => h))).mono ?_
  rintro e w2 ⟨b, rfl, hO2'⟩
  have hO2 := hO1.trans hO2'
  clear hO1 hO2'
  cases b with
  | false =>
    go_wp2_with fail
    go_ret
    exact ⟨rfl, hO2.below (Nat.le_refl _) (fun _ h => h.elim)⟩
  | true =>
    go_upto_region 6 with fail
    rw [HK.out]
    clear ht1 ht2 HK
    go_wp2_with fail
    refine (Mine.new_at hO2).mono ?_
    rintro e w3 ⟨p, tb, mb, v, rfl, hm3, hO3⟩
    clear hO2
    go_wp2_with (first
      | (refine wpList_slice_h _ rfl _ _ _ rfl 1 Bk.u_elem Bk.z_elem ao l.length cap k .i64 rfl rfl (by omega) ?_))
    go_loopw [35] (fun u35 wr => ∃ (j : Nat) (v : Value) (m : Mc.Mach), j ≤ k ∧ u35 = .int .i64 j ∧ Mine w wr p tb mb v m ∧ Only NoBlock w wr) (fun u35 _ => k - (intOf u35).toNat)
    case atStart => exact ⟨0, v, _, by omega, rfl, hm3, hO3⟩
    case round =>
      clear hm3 hO3
      obtain ⟨j, v, m, hj, rfl, hm, hO⟩ := hrel
      by_cases hlt : j < k
      · obtain ⟨b, off, rfl, hc⟩ := (hin.row.keeps hO (fun _ _ h => h)).cell j (by omega)
        have hsm := hin.small j (by omega)
        generalize l.getD j ByteArray.empty = s at hc hsm
        go_wp2_with fail
        refine (hm.apply_at hO s hsm).mono ?_
        rintro e w4 ⟨rfl, v', hm', hO', -⟩
        clear hc
        go_wp2_with fail
        go_roundw
        case rel => exact ⟨j + 1, v', _, by omega, by go_num, hm', hO'⟩
        case measure => simp [intOf]; omega
      · obtain rfl : j = k := by omega
        go_wp2_with fail
        refine hm.save_at.mono ?_
        rintro e w4 ⟨rfl, hOs⟩
        have hm4 := hm.keepsN hOs
        have hO4 := hO.trans hOs
        clear hm hO hOs
        go_wp2_with fail
        refine (hm4.load_at hO4).mono ?_
        rintro e w5 ⟨p2, tb2, mb2, v2, rfl, hma, hmb, hap, hO5⟩
        clear hm4 hO4
        go_wp2_with fail
        refine hmb.save_at.mono ?_
        rintro e w6 ⟨rfl, hOs⟩
        have hma6 := hma.keepsN hOs
        have hmb6 := hmb.keepsN hOs
        have hO6 := hO5.trans hOs
        clear hma hmb hO5 hOs
        go_wp2_with fail
        refine hma6.save_at.mono ?_
        rintro e w7 ⟨rfl, hOs⟩
        have hma7 := hma6.keepsN hOs
        have hmb7 := hmb6.keepsN hOs
        have hO7 := hO6.trans hOs
        clear hma6 hmb6 hO6 hOs
        go_wp2_with (first
          | (refine wpList_slice_l _ rfl _ _ _ rfl 1 Bk.u_elem Bk.z_elem ao l.length cap j .i64 rfl rfl (by omega) ?_))
        have hdl : (l.drop j).length = l.length - j := List.length_drop
        go_loopw [62] (fun u62 wr => ∃ (i : Nat) (v v2 : Value) (m : Mc.Mach), i ≤ l.length - j ∧ u62 = .int .i64 i ∧ Mine w wr p tb mb v m ∧ Mine w wr p2 tb2 mb2 v2 m ∧ Apart tb mb v tb2 mb2 v2 ∧ Only NoBlock w wr) (fun u62 _ => (l.length - j) - (intOf u62).toNat)
        case atStart => exact ⟨0, v, v2, m, by omega, rfl, hma7, hmb7, hap, hO7⟩
        case round =>
          clear hma7 hmb7 hap hO7
          obtain ⟨i, v, v2, m, hi, rfl, hma, hmb, hap, hO⟩ := hrel
          by_cases hlt2 : i < l.length - j
          · obtain ⟨b, off, hca, hc⟩ := ((hin.row.keeps hO (fun _ _ h => h)).drop hlc j).cell i (by omega)
            have hsm := hin.small (j + i) (by omega)
            have hg : (l.drop j).getD i ByteArray.empty = l.getD (j + i) ByteArray.empty := by rw [List.getD_eq_getElem?_getD, List.getD_eq_getElem?_getD, List.getElem?_drop]
            rw [hg] at hc
            generalize l.getD (j + i) ByteArray.empty = s at hc hsm
            rw [hca]
            clear hg
            go_wp2_with fail
            refine (hma.apply_at hO s hsm).mono ?_
            rintro e w8 ⟨rfl, va, hma8, hO8, hoth⟩
            obtain ⟨hmb8, hap8⟩ := hoth _ _ _ _ _ hmb hap
            clear hc hma hmb hap hO hoth
            go_wp2_with fail
            refine (hmb8.apply_at hO8 s hsm).mono ?_
            rintro e w9 ⟨rfl, vb, hmb9, hO9, hoth⟩
            obtain ⟨hma9, hap9⟩ := hoth _ _ _ _ _ hma8 hap8.symm
            clear hma8 hmb8 hap8 hO8 hoth
            generalize (m.apply (nums s)).2 = y
            generalize (m.apply (nums s)).1 = m' at hma9 hmb9
            unfold repV
            go_wp2_with fail
            go_roundw
            case rel => exact ⟨i + 1, va, vb, m', by omega, by go_num, hma9, hmb9, hap9.symm, hO9⟩
            case measure => simp [intOf]; omega
          · obtain rfl : i = l.length - j := by omega
            go_wp2_with fail
            refine hma.save_at.mono ?_
            rintro e w8 ⟨rfl, hOs⟩
            have hmb8 := hmb.keepsN hOs
            have hO8 := hO.trans hOs
            clear hma hmb hO hOs
            go_wp2_with fail
            refine hmb8.save_at.mono ?_
            rintro e w9 ⟨rfl, hOs⟩
            go_wp2_with fail
            go_ret
            exact ⟨by simp, (hO8.trans hOs).below (Nat.le_refl _) (fun _ h => h.elim)⟩
end Go.Proofs.Ytogeeeigfhmpmaa

/- The statement MachineBack: for every input the law returns true, and each argument reads afterwards as before. Frame of the walk in LawMachineBack. -/
namespace Go.Proofs.Ytogeeeigfhmpmaa.machineBack
open Go.ChangeShapes Go.WideShapes Go.ChangeAt Go.RowKit
open Go.ChangeMaps (open_string shut_string)
set_option linter.unusedVariables false

theorem own : ownKnob Try.prog.godebug = none := by kernel_rfl
theorem laidOut : laidOutB Try.prog = true := by kernel_rfl
theorem u1 : Try.prog.underlying 3 = some (.int .i64) := by kernel_rfl
theorem ub : Try.prog.underlying 4 = some .bool := by kernel_rfl

set_option maxRecDepth 100000 in
theorem lifted (os : Os) (started : os.Started) (H : Type) (enc : TypeId × Value → H) :
    ReturnsInHanded {} Try.checked os 5 .any (Rows.machineBackSpec.pre6 enc Try.prog Try.f5 Rows.machineBackRow.domain false) (Rows.machineBackSpec.post enc Try.prog Try.f5 false true false false) := by
  refine returnsInHanded_of_change_sized (C := Try.checked) own started (by kernel_rfl) Try.func5
    (ChangeSpec.witness6 (enc := enc) (C := Try.checked) false ⟨#[], #[.slice none 0 0, .int .i64 0], []⟩ 8 (by kernel_rfl) (by kernel_rfl) (by kernel_rfl) (by kernel_rfl)) ?_
  intro W base args ds gs before hval0 hW hcnd hsz0 _
  have hsz : (DataW.weightsEach Try.prog (Try.f5.params.toList ++ Rows.machineBackSpec.plain.varTypes Try.prog) (ds ++ gs)).all (· ≤ reachBytes) = true := hsz0
  have hval : ∀ (j : Nat) t v, Try.f5.params[j]? = some t → args[j]? = some v → Value.okWide Try.prog W .any base t v := hval0
  have hW' := hW
  obtain ⟨p, q, hA0, hV, rfl, hfz, hnd⟩ := hW
  have hA : DataW.TrodAll enc Try.prog W 0 (fun _ => true) true Try.f5.params.toList args.toList ds p := hA0
  rw [Try.params5] at hA hval hsz
  obtain ⟨v0, vs0, d0, ds0, p0, q0, hargs, rfl, rfl, h0, r0⟩ := trodAll_cons hA
  obtain ⟨v1, vs1, d1, ds1, p1, q1, rfl, rfl, rfl, h1, r1⟩ := trodAll_cons r0
  obtain ⟨rfl, rfl, rfl⟩ := trodAll_nil r1
  obtain rfl : args = #[v0, v1] := by cases args; simp_all
  obtain ⟨rfl, rfl⟩ := trodVars_none hV
  have k0 := h0
  have lt0 : ∀ x ∈ p0, x.block < W.heap.size := by obtain ⟨m, hm⟩ := k0; exact DataW.trod_lt m _ _ _ hm
  have k1 := h1
  have lt1 : ∀ x ∈ p1, x.block < W.heap.size := by obtain ⟨m, hm⟩ := k1; exact DataW.trod_lt m _ _ _ hm
  obtain ⟨a0, rfl, w0⟩ := open_texts (hval 0 41 v0 rfl rfl) h0 (fun n hn => by have := List.all_eq_true.1 hsz n (DataW.weights_mem_each (j := 0) (t := 41) rfl rfl n hn); simpa using this)
  obtain ⟨a1, rfl, rfl, rfl, w1⟩ := open_int u1 (hval 1 3 v1 rfl rfl) h1
  clear hA0 hval0
  refine (walk_MachineBack (w := W) a0 w0 a1 w1).mono fun e W' ⟨he, bel⟩ => ?_
  subst he
  exact ⟨_, rfl, _, _, _, [], _, [], hW', trodAll_mk1 (shut_bool ub _), (trodAll_cons_mk (Below.trod laidOut (by kernel_rfl) (of_decide_eq_true (by kernel_rfl)) k0 bel lt0) (trodAll_cons_mk (Below.trod laidOut (by kernel_rfl) (of_decide_eq_true (by kernel_rfl)) k1 bel lt1) trodAll_mk0)), rfl, bel.frame _, fun h => by cases h⟩

theorem over : Rows.machineBackRow.holds Try.pinned (OpenSpec.ofChange Rows.machineBackSpec) :=
  OpenClaim.holds_of_wide 5 Try.f5 rfl rfl rfl rfl rfl rfl rfl ⟨rfl, rfl, rfl, rfl, rfl⟩ rfl rfl rfl rfl rfl (by kernel_rfl) Try.func5 (by kernel_rfl)
    (of_decide_eq_true (by kernel_rfl)) (by unfold Func.isWrapper; first | (rw [if_pos (by decide +kernel)]; kernel_rfl) | (rw [if_neg (by decide +kernel)]; exact ⟨rfl, rfl⟩))
    (fun os started H enc _ => lifted os started H enc)

theorem proved : Rows.MachineBackSaid := over
#print axioms proved
end Go.Proofs.Ytogeeeigfhmpmaa.machineBack
