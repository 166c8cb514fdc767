/- Each timer is accounted for: the law's walk. -/
import Derived.Test.YtklpdkojffaiiaaWheelK
import Derived.Test.YtklpdkojffaiiaaDue
import Derived.Test.YtklpdkojffaiiaaOpen9
namespace Go.Proofs.Ytklpdkojffaiiaa
open Go.RowKit Go.Shelf
set_option maxRecDepth 100000

namespace Wh
theorem nextA_zero {A : List Tm} {now : Nat} (hd : ∀ t ∈ A, now < t.due) : nextA A now = 0 ↔ A.length = 0 := by
  constructor
  · intro h
    by_cases hA : A = []
    · rw [hA]; rfl
    · have : 1 ≤ nextA A now := nextL_pos hd (.inr hA)
      omega
  · intro h
    rw [List.eq_nil_of_length_eq_zero h]
    rfl
theorem setA_cases {A A' : List Tm} {now : Nat} {turn id d c t' : Int} (hn : (A.map (·.id)).Nodup) (h : setA A now turn id d = (A', c, t')) : ((c == 0) = false ∧ A' = A ∧ t' = turn) ∨ (c = 0 ∧ t' = turn + 1 ∧ (A'.length = A.length ∨ A'.length = A.length + 1)) := by
  unfold setA at h
  split at h
  · split at h
    · cases h; exact .inl ⟨rfl, rfl, rfl⟩
    · rename_i h2
      cases h
      refine .inr ⟨rfl, rfl, ?_⟩
      rw [List.length_append]
      cases hh : hasA A id with
      | true => have := dropA_len hn hh; left; simp; omega
      | false => rw [dropA_none hh]; right; rfl
  · cases h; exact .inl ⟨rfl, rfl, rfl⟩
theorem dueA_len (A : List Tm) (now : Nat) : (dueA A now).length + (restA A now).length = A.length := filter_len A _
end Wh
set_option maxHeartbeats 8000000 in
theorem walk9_counts (w : World) (l : List CallW) (ao : Option Addr) (cap : Nat) (hin : CallsIn9 w ao l) :
    Calls Try.prog 6 #[.slice ao l.length cap] w fun e w' => e = .returned (.bool true) ∧ Only NoBlock w w' := by
  have hll := hin.len
  unfold maxLen at hll
  go_enter Try.func6, Try.ntmps6
  go_wp2_with fail
  refine (begun9_ok w).mono ?_
  rintro e w1 ⟨rfl, o1⟩
  go_wp2_with fail
  refine (new_i w1).mono ?_
  rintro e w2 ⟨p, rfl, h2, o2⟩
  have hB := o1.size
  have o2 := o1.trans o2
  obtain ⟨B, hBe⟩ : ∃ B, w1.heap.size = B := ⟨_, rfl⟩
  rw [hBe] at h2 hB
  obtain ⟨X, hX⟩ : ∃ X : Nat → Prop, (fun _ => False) = X := ⟨_, rfl⟩
  rw [hX] at h2
  clear o1 hBe hX
  go_wp2_with fail
  go_loopw [16, 4, 5, 6] (fun u16 u4 u5 u6 wr => ∃ (i s g now : Nat) (A : List Wh.Tm) (turn : Int), i ≤ l.length ∧ i ≤ 300 ∧ u16 = .int .i64 i ∧ u4 = .int .i64 s ∧ u5 = .int .i64 g ∧ u6 = .int .i64 now ∧ RowKit.Hid (s = g + A.length) ∧ s ≤ i ∧ now ≤ 10000 ∧ turn ≤ i ∧ WheelI wr B X p A now turn ∧ Only NoBlock w wr) (fun u16 _ _ _ _ => l.length - (intOf u16).toNat)
  case atStart => exact ⟨0, 0, 0, 0, [], 0, by omega, by omega, rfl, rfl, rfl, rfl, Lib.hid rfl, by omega, by omega, by omega, h2, o2⟩
  case round =>
    obtain ⟨i, s, g, now, A, turn, hi, hi3, rfl, rfl, rfl, rfl, HS, hsi, hn1, ht1, hw, ho⟩ := hrel
    have hgi : g ≤ i := by have := HS.out; omega
    by_cases hlt : i < l.length
    · obtain ⟨b, off, rfl, hc⟩ := (hin.keeps ho).call i hlt
      obtain ⟨c, hcc⟩ : ∃ c, l[i] = c := ⟨_, rfl⟩
      rw [hcc] at hc
      obtain ⟨c0, c1, c2, cid, cn⟩ := hc
      obtain ⟨ck, ci, cz⟩ := c
      simp only at c0 c1 c2 cid cn
      clear hcc
      have hA := (Only.refl NoBlock wr).alloc (Obj.cells #[.int .i64 ck, .int .i64 ci, .int .i64 cz] 37)
      have hwA := hw.keeps hA
      have hoA := ho.trans hA
      by_cases h300 : i = 300
      · have hb3 : ((i : Int) == 300) = true := by rw [beq_iff_eq]; omega
        clear h300
        have hz := Wh.nextA_zero (fun t ht => (hwA).later ht)
        have hdue := due_i _ B p now X A turn hwA
        have hlen1 := len_i _ B p now X A turn hwA
        have hlen2 := fun (w6 : World) (o6 : Only NoBlock _ w6) => len_i w6 B p now X A turn ((hwA).keeps o6)
        have hsum := HS.out
        obtain ⟨R, hR⟩ : ∃ R, Wh.nextA A now = R := ⟨_, rfl⟩
        obtain ⟨Z, hZ⟩ : ∃ Z, A.length = Z := ⟨_, rfl⟩
        rw [hR, hZ] at hz
        rw [hR] at hdue
        simp only [hZ] at hlen1 hlen2
        rw [hZ] at hsum
        have hwg : IntKind.i64.wrap ((g : Int) + (Z : Int)) = (s : Int) := by rw [IntWalk.i64_in _ (by omega)]; omega
        clear hR hZ HS
        by_cases h0 : Z = 0
        · have hR0 := hz.2 h0
          subst h0 hR0
          obtain rfl : s = g := by omega
          clear hz hsum hwg
          go_wp2_with fail
          refine hlen1.mono ?_
          rintro e w5 ⟨rfl, rfl⟩
          go_wp2_with fail
          refine hdue.mono ?_
          rintro e w6 ⟨rfl, o6⟩
          go_wp2_with fail
          refine (hlen2 w6 o6).mono ?_
          rintro e w7 ⟨rfl, rfl⟩
          go_wp2_with fail
          go_ret
          exact ⟨rfl, (hoA).trans o6⟩
        · have hR0 : ¬ R = 0 := fun e => h0 (hz.1 e)
          have q1 : ((R : Int) == 0) = false := by rw [beq_eq_false_iff_ne]; omega
          have q2 : ((Z : Int) == 0) = false := by rw [beq_eq_false_iff_ne]; omega
          clear hz h0 hR0 hsum
          go_wp2_with fail
          refine hlen1.mono ?_
          rintro e w5 ⟨rfl, rfl⟩
          go_wp2_with fail
          refine hdue.mono ?_
          rintro e w6 ⟨rfl, o6⟩
          go_wp2_with fail
          refine (hlen2 w6 o6).mono ?_
          rintro e w7 ⟨rfl, rfl⟩
          go_wp2_with fail
          go_ret
          exact ⟨rfl, (hoA).trans o6⟩
      · have hb3 : ((i : Int) == 300) = false := by rw [beq_eq_false_iff_ne]; omega
        have HI : RowKit.Hid (i < 300) := Lib.hid (by omega)
        clear h300
        by_cases hk0 : ck = 0
        · subst hk0
          have hids := hw.ids
          obtain ⟨A', c, t', hE⟩ : ∃ A' c t', Wh.setA A now turn ci cz = (A', c, t') := ⟨_, _, _, rfl⟩
          have hcs := Wh.setA_cases hids hE
          have hset := set_i _ B p now X A turn hwA ci cz cid (by omega) (by omega)
          rw [hE] at hset
          simp only at hset
          clear hE hids
          go_upto_region 19 with fail
          go_wp2_with fail
          refine (len_i _ B p now X A turn hwA).mono ?_
          rintro e w5 ⟨rfl, rfl⟩
          go_wp2_with fail
          refine hset.mono ?_
          rintro e w6 ⟨rfl, h6, o6⟩
          have o6 := Only.fresh hoA o6 hB
          clear hset hwA hoA hA hw ho c0 c1 c2
          rcases hcs with ⟨hc0, rfl, rfl⟩ | ⟨rfl, rfl, hcl⟩
          · go_wp2_with fail
            go_roundw
            case rel => exact ⟨i + 1, s, g, now, A', t', by omega, by have := HI.out; omega, by go_num, rfl, rfl, rfl, HS, by omega, by omega, by omega, h6, o6⟩
            case measure => simp [intOf]; omega
          · have hws : IntKind.i64.wrap ((s : Int) + 1) = ((s + 1 : Nat) : Int) := by rw [IntWalk.i64_in _ (by omega)]; push_cast; rfl
            rcases hcl with hcl | hcl
            · have heq : ((A'.length : Int) == (A.length : Int)) = true := by rw [beq_iff_eq]; omega
              have HC := Lib.hid hcl
              have hwg : IntKind.i64.wrap ((g : Int) + 1) = ((g + 1 : Nat) : Int) := by rw [IntWalk.i64_in _ (by omega)]; push_cast; rfl
              clear hcl
              go_wp2_with fail
              refine (len_i _ B p now X A' _ h6).mono ?_
              rintro e w5 ⟨rfl, rfl⟩
              go_wp2_with fail
              go_roundw
              case rel => exact ⟨i + 1, s + 1, g + 1, now, A', turn + 1, by omega, by have := HI.out; omega, by go_num, by go_num, by go_num, rfl, Lib.hid (by have := HS.out; have := HC.out; omega), by omega, by omega, by omega, h6, o6⟩
              case measure => simp [intOf]; omega
            · have heq : ((A'.length : Int) == (A.length : Int)) = false := by rw [beq_eq_false_iff_ne]; omega
              have HC := Lib.hid hcl
              clear hcl
              go_wp2_with fail
              refine (len_i _ B p now X A' _ h6).mono ?_
              rintro e w5 ⟨rfl, rfl⟩
              go_wp2_with fail
              go_roundw
              case rel => exact ⟨i + 1, s + 1, g, now, A', turn + 1, by omega, by have := HI.out; omega, by go_num, by go_num, rfl, rfl, Lib.hid (by have := HS.out; have := HC.out; omega), by omega, by omega, by omega, h6, o6⟩
              case measure => simp [intOf]; omega
        · have hbk0 : (ck == 0) = false := by simpa using hk0
          by_cases hk1 : ck = 1
          · subst hk1
            have hids := hw.ids
            have hst := stop_i _ B p now X A turn hwA ci
            clear hk0
            go_upto_region 25 with fail
            go_wp2_with fail
            refine hst.mono ?_
            rintro e w6 ⟨rfl, h6, o6⟩
            have o6 := Only.fresh hoA o6 hB
            clear hst hwA hoA hA hw ho c0 c1 c2
            cases hh : Wh.hasA A ci with
            | true =>
              have HL := Lib.hid (Wh.dropA_len hids hh)
              have hwg : IntKind.i64.wrap ((g : Int) + 1) = ((g + 1 : Nat) : Int) := by rw [IntWalk.i64_in _ (by omega)]; push_cast; rfl
              clear hids hh
              go_wp2_with fail
              go_roundw
              case rel => exact ⟨i + 1, s, g + 1, now, Wh.dropA A ci, turn, by omega, by have := HI.out; omega, by go_num, rfl, by go_num, rfl, Lib.hid (by have := HS.out; have := HL.out; omega), by omega, by omega, by omega, h6, o6⟩
              case measure => simp [intOf]; omega
            | false =>
              rw [Wh.dropA_none hh] at h6
              clear hids hh
              go_wp2_with fail
              go_roundw
              case rel => exact ⟨i + 1, s, g, now, A, turn, by omega, by have := HI.out; omega, by go_num, rfl, rfl, rfl, HS, by omega, by omega, by omega, h6, o6⟩
              case measure => simp [intOf]; omega
          · have hbk1 : (ck == 1) = false := by simpa using hk1
            obtain ⟨n, hn, en⟩ := norm_mod cz 2000 (by decide) (by decide)
            replace en : (wrap64 (cz.tmod 2000 + 2000)).tmod 2000 = (n : Int) := en
            have hwt : IntKind.i64.wrap ((now : Int) + (n : Int)) = ((now + n : Nat) : Int) := by rw [IntWalk.i64_in _ (by omega)]; push_cast; rfl
            clear hk0 hk1
            by_cases hbig : 10000 < now + n
            · have hbb : decide (10000 < ((now + n : Nat) : Int)) = true := by rw [decide_eq_true_eq]; omega
              have hbb2 : decide (10000 < (now : Int) + (n : Int)) = true := by rw [decide_eq_true_eq]; omega
              go_wp2_with fail
              go_ret
              exact ⟨rfl, hoA⟩
            · have hbb : decide (10000 < ((now + n : Nat) : Int)) = false := by rw [decide_eq_false_iff_not]; omega
              have hbb2 : decide (10000 < (now : Int) + (n : Int)) = false := by rw [decide_eq_false_iff_not]; omega
              have HBIG := Lib.hid hbig
              clear hbig
              go_upto_region 15 with fail
              generalize wr.alloc (Obj.cells #[.int .i64 ck, .int .i64 ci, .int .i64 cz] 37) = w4 at hwA hoA ⊢
              clear hA hw ho c0 c1 c2 en hwt hbb hbb2 hbk0 hbk1 hb3
              go_loopw [36, 5] (fun u36 u5 wr => ∃ (k g' : Nat) (A' : List Wh.Tm), k ≤ n ∧ u36 = .int .i64 k ∧ u5 = .int .i64 g' ∧ RowKit.Hid (s = g' + A'.length) ∧ WheelI wr B X p A' (now + k) turn ∧ Only NoBlock w wr) (fun u36 _ _ => n - (intOf u36).toNat)
              case atStart => exact ⟨0, g, A, by omega, rfl, rfl, HS, hwA, hoA⟩
              case round =>
                obtain ⟨k, g', A', hk, rfl, rfl, HS', hw', ho'⟩ := hrel
                have hgs : g' ≤ s := by have := HS'.out; omega
                by_cases hlk : k < n
                · have htk := tick_i wr B p (now + k) X A' turn hw' (by omega)
                  have hlen := Wh.dueA_len A' (now + k + 1)
                  go_upto_region 16 with fail
                  go_wp2_with fail
                  refine htk.mono ?_
                  rintro e w6 ⟨v, rfl, hI, h6y, o6⟩
                  have o6 := Only.fresh ho' o6 hB
                  have h6 : WheelI w6 B X p _ _ _ := h6y.less (fun b e => .inl e)
                  clear htk h6y
                  obtain ⟨ao2, cap2, rfl, hf⟩ := hI.first
                  rw [List.length_map]
                  obtain ⟨D, hD⟩ : ∃ D, (Wh.dueA A' (now + k + 1)).length = D := ⟨_, rfl⟩
                  rw [hD] at hlen ⊢
                  have hwg : IntKind.i64.wrap ((g' : Int) + (D : Int)) = ((g' + D : Nat) : Int) := by
                    have := HS'.out
                    rw [IntWalk.i64_in _ (by omega)]; push_cast; rfl
                  have HLEN := Lib.hid hlen
                  clear hlen hD hI hf
                  go_wp2_with fail
                  go_roundw
                  case rel => exact ⟨k + 1, g' + D, _, by omega, by go_num, by go_num, Lib.hid (by have := HS'.out; have := HLEN.out; omega), h6, o6⟩
                  case measure => simp [intOf]; omega
                · obtain rfl : k = n := by omega
                  go_wp2_with fail
                  go_roundw
                  case rel => exact ⟨i + 1, s, g', now + k, A', turn, by omega, by have := HI.out; omega, by go_num, rfl, rfl, by go_num, HS', by omega, by have := HBIG.out; omega, by omega, hw', ho'⟩
                  case measure => simp [intOf]; omega
    · have hil : i = l.length := by omega
      have hz := Wh.nextA_zero (fun t ht => (hw).later ht)
      have hdue := due_i _ B p now X A turn hw
      have hlen1 := len_i _ B p now X A turn hw
      have hlen2 := fun (w6 : World) (o6 : Only NoBlock _ w6) => len_i w6 B p now X A turn ((hw).keeps o6)
      have hsum := HS.out
      obtain ⟨R, hR⟩ : ∃ R, Wh.nextA A now = R := ⟨_, rfl⟩
      obtain ⟨Z, hZ⟩ : ∃ Z, A.length = Z := ⟨_, rfl⟩
      rw [hR, hZ] at hz
      rw [hR] at hdue
      simp only [hZ] at hlen1 hlen2
      rw [hZ] at hsum
      have hwg : IntKind.i64.wrap ((g : Int) + (Z : Int)) = (s : Int) := by rw [IntWalk.i64_in _ (by omega)]; omega
      clear hR hZ HS
      by_cases h0 : Z = 0
      · have hR0 := hz.2 h0
        subst h0 hR0
        obtain rfl : s = g := by omega
        clear hz hsum hwg
        go_wp2_with fail
        refine hlen1.mono ?_
        rintro e w5 ⟨rfl, rfl⟩
        go_wp2_with fail
        refine hdue.mono ?_
        rintro e w6 ⟨rfl, o6⟩
        go_wp2_with fail
        refine (hlen2 w6 o6).mono ?_
        rintro e w7 ⟨rfl, rfl⟩
        go_wp2_with fail
        go_ret
        exact ⟨rfl, (ho).trans o6⟩
      · have hR0 : ¬ R = 0 := fun e => h0 (hz.1 e)
        have q1 : ((R : Int) == 0) = false := by rw [beq_eq_false_iff_ne]; omega
        have q2 : ((Z : Int) == 0) = false := by rw [beq_eq_false_iff_ne]; omega
        clear hz h0 hR0 hsum
        go_wp2_with fail
        refine hlen1.mono ?_
        rintro e w5 ⟨rfl, rfl⟩
        go_wp2_with fail
        refine hdue.mono ?_
        rintro e w6 ⟨rfl, o6⟩
        go_wp2_with fail
        refine (hlen2 w6 o6).mono ?_
        rintro e w7 ⟨rfl, rfl⟩
        go_wp2_with fail
        go_ret
        exact ⟨rfl, (ho).trans o6⟩
theorem walk_WheelCounts {w : World} (a0 : List CallW × Option Addr × Nat) (h0 : CallsIn9 w a0.2.1 a0.1) :
    Calls Try.prog 6 #[.slice a0.2.1 a0.1.length a0.2.2] w fun e w' => e = .returned (.bool true) ∧ Below w.heap.size w w' :=
  (walk9_counts w a0.1 a0.2.1 a0.2.2 h0).mono fun _ _ h => ⟨h.1, h.2.below (Nat.le_refl _) (fun _ h => h.elim)⟩
end Go.Proofs.Ytklpdkojffaiiaa
