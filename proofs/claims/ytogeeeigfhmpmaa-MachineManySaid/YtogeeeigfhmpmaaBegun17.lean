/- What stands at the head of each statement of layer 17: a saga that runs. -/
import Derived.Test.YtogeeeigfhmpmaaRenc
import Derived.Test.YtogeeeigfhmpmaaMnew
import Derived.Test.YtogeeeigfhmpmaaSagas
import Derived.Test.YtogeeeigfhmpmaaMachB
namespace Go.Proofs.Ytogeeeigfhmpmaa
open Go.RowKit
set_option maxRecDepth 100000

theorem rowIn_made {α : Type} (K : RowK α) (E : TypeId) (w : World) (cs : Array Value) (x : α) (hx : cs.toList = K.cells x) : RowIn K E (w.alloc (.cells cs E)) (some ⟨w.heap.size, 0, none⟩) [x] :=
  ⟨fun i hi => ⟨w.heap.size, 0, rfl, fun j hj => by
    have : i = 0 := by simp at hi; omega
    subst this
    have := made_cells K w E _ rfl cs x hx j hj
    simpa using this⟩, fun a ha => by cases ha; exact ⟨_, _, Blk.made w cs E⟩⟩
theorem one_smalls : Smalls Mc.oneStep := ⟨by decide, by
  intro t ht
  simp [Mc.oneStep] at ht
  subst ht
  exact ⟨by decide, by decide, by decide⟩⟩
theorem reg_enc_at (w : World) :
    Calls Try.prog 9 #[.agg #[.int .i64 1, .int .u64 0, .int .u64 0, .int .u64 0, .slice none 0 0, .int .i64 0, .bool false, .int .i64 0, .bool false, .int .u64 0]] w fun e w' => e = .returned (.tuple #[.string (textOf (Pk.enc Mc.regCmd)), .int .i64 0]) ∧ Only NoBlock w w' := by
  have h := renc_at w Mc.regCmd none 0 (by decide) Mc.reg_wf (by decide) (by decide) ⟨by decide, by simp [Mc.regCmd]⟩ (by intro t ht; simp [Mc.regCmd] at ht) (RowIn.nil w)
  rw [encE_may Mc.reg_may] at h
  exact h
theorem sub_enc_at (w : World) (ao : Option Addr) (cap : Nat) (h : RowIn stpK 38 w ao Mc.oneStep) (seq id : Nat) (h1 : seq < 18446744073709551616) (h2 : id < 18446744073709551616) :
    Calls Try.prog 9 #[.agg #[.int .i64 2, .int .u64 1, .int .u64 seq, .int .u64 id, .slice ao 1 cap, .int .i64 0, .bool false, .int .i64 0, .bool false, .int .u64 0]] w fun e w' => e = .returned (.tuple #[.string (textOf (Pk.enc (Mc.subCmd seq id))), .int .i64 0]) ∧ Only NoBlock w w' := by
  have h := renc_at w (Mc.subCmd seq id) ao cap (by show 2 ≤ 5; decide) (Mc.sub_wf h1 h2) (by show 0 < 1000; decide) (by show 0 < 1000; decide) one_smalls Mc.one_byt h
  rw [encE_may (Mc.sub_may seq id)] at h
  exact h
theorem enc_small {c : Pk.Cmd} (hw : c.Wf) (hk : c.kind ≤ 5) (hs : Smalls c.steps) (hst : c.step < 1000) (htr : c.try_ < 1000) : (Pk.enc c).length ≤ 5000 := by
  have h1 := num_len (x := c.kind) (by omega)
  have h2 := num_len hw.session
  have h3 := num_len hw.seq
  have h4 := num_len hw.saga
  have h5 := num_len hw.now
  have h6 := encSs_len hs
  have t1 := Pk.truth_le c.back
  have t2 := Pk.truth_le c.ok
  have h7 := num_len (x := c.step) (by omega)
  have h8 := num_len (x := c.try_) (by omega)
  have h9 := num_len (x := Pk.truth c.back) (by omega)
  have h10 := num_len (x := Pk.truth c.ok) (by omega)
  unfold Pk.enc
  simp only [List.length_append]
  split
  · omega
  · split
    · simp only [List.length_append]; omega
    · simp only [List.length_nil]; omega
/-- Apply of bytes that are known as a list -/
theorem apply_as {w : World} {p tb mb : Nat} {v : Value} {m : Mc.Mach} (hM : MachAt w p tb mb v m) (hk : m.Ok) {l : List Int} (hb : Pk.Byt l) (hl : l.length ≤ 1000000000000) :
    Calls Try.prog 10 #[.pointer (some ⟨p, 0, none⟩), .string (textOf l)] w (MachEnd p tb mb v (m.apply l).1 (m.apply l).2 w) := by
  have h := apply_at w p tb mb v m hM hk (textOf l) (by rw [textOf_size]; exact hl)
  rw [nums_textOf hb] at h
  exact h
theorem reg_small : (Pk.enc Mc.regCmd).length ≤ 1000000000000 := Nat.le_trans (enc_small Mc.reg_wf (by decide) ⟨by decide, by simp [Mc.regCmd]⟩ (by decide) (by decide)) (by decide)
theorem sub_small {seq id : Nat} (h1 : seq < 18446744073709551616) (h2 : id < 18446744073709551616) : (Pk.enc (Mc.subCmd seq id)).length ≤ 1000000000000 := Nat.le_trans (enc_small (Mc.sub_wf h1 h2) (by show 2 ≤ 5; decide) one_smalls (by show 0 < 1000; decide) (by show 0 < 1000; decide)) (by decide)
def begunM1 : Mc.Mach := ⟨Mc.oneTab 0 ⟨0, 0, 0⟩, [], fun _ => none⟩
def begunM2 : Mc.Mach := ⟨Mc.oneTab 1 ⟨0, 1, 0⟩, Mc.insert [] 7, Mc.put (fun _ => none) 7 (Mc.fresh Mc.oneStep)⟩
theorem begun_1 : Mc.Mach.new.apply (Pk.enc Mc.regCmd) = (begunM1, ⟨0, 1, 0⟩) := Mc.reg_apply
theorem begun_2 : begunM1.apply (Pk.enc (Mc.subCmd 1 7)) = (begunM2, ⟨0, 1, 0⟩) := (Mc.sub_apply (n := 0) (id := 7) (by decide) (by decide)).trans rfl
theorem begun_3 : begunM2.apply (Pk.enc (Mc.subCmd 1 7)) = (begunM2, ⟨0, 1, 0⟩) := by
  unfold Mc.Mach.apply
  rw [Pk.dec_enc (Mc.sub_may _ _) (Mc.sub_wf (by decide) (by decide))]
  rfl
set_option maxHeartbeats 4000000 in
theorem begun17_at (w : World) :
    Calls Try.prog 7 #[] w fun e w' => e = .returned (.bool true) ∧ Only NoBlock w w' := by
  go_enter Try.func7, Try.ntmps7
  go_wp2_with fail
  refine (mnew_at w).mono ?_
  rintro e w1 ⟨p, tb, mb, rfl, hM1, hO1, hp, htb, hmb, hpl⟩
  go_wp2_with fail
  refine (reg_enc_at w1).mono ?_
  rintro e w2 ⟨rfl, hO2⟩
  have hM2 := (MachTo.refl hM1).stepN hO2
  go_wp2_with fail
  have hA := (Only.refl NoBlock w2).alloc (Obj.cells #[.int .i64 0, .string ⟨#[115]⟩, .int .i64 1] 38)
  have hrw := rowIn_made stpK 38 w2 #[.int .i64 0, .string ⟨#[115]⟩, .int .i64 1] ⟨0, [115], 1⟩ rfl
  have hM3 := hM2.stepN hA
  generalize w2.alloc (Obj.cells #[.int .i64 0, .string ⟨#[115]⟩, .int .i64 1] 38) = w3 at hM3 hrw ⊢
  refine (sub_enc_at w3 _ _ hrw 1 7 (by decide) (by decide)).mono ?_
  rintro e w4 ⟨rfl, hO4⟩
  have hM4 := hM3.stepN hO4
  clear hM2 hM3 hrw hA hO2 hO4
  have hok1 := (Mc.Mach.new_ok.apply Mc.reg_byt).1
  have hok2 := (hok1.apply (Mc.sub_byt (seq := 1) (id := 7) (by decide) (by decide))).1
  rw [begun_1] at hok1 hok2
  rw [begun_2] at hok2
  go_wp2_with fail
  refine (apply_as hM4.at_ Mc.Mach.new_ok Mc.reg_byt reg_small).mono ?_
  rintro e w5 ⟨rfl, v5, hM5⟩
  rw [begun_1] at hM5 ⊢
  go_wp2_with fail
  refine (apply_as hM5.at_ hok1 (Mc.sub_byt (by decide) (by decide)) (sub_small (by decide) (by decide))).mono ?_
  rintro e w6 ⟨rfl, v6, hM6⟩
  rw [begun_2] at hM6 ⊢
  go_wp2_with fail
  refine (apply_as hM6.at_ hok2 (Mc.sub_byt (by decide) (by decide)) (sub_small (by decide) (by decide))).mono ?_
  rintro e w7 ⟨rfl, v7, hM7⟩
  rw [begun_3] at hM7 ⊢
  have hMA := ((hM4.trans hM5).trans hM6).trans hM7
  have hOb : Only NoBlock w w7 := hMA.fresh hO1 htb hmb (fun k hk => by cases hk)
  unfold repV
  clear hMA hM4 hM5 hM6 hok1 hM1 hO1
  have hM7a := hM7.at_
  clear hM7
  have hA1 := (Only.refl NoBlock w7).alloc (Obj.cells #[.int .i64 0, .int .u64 1, .int .u64 0] 34)
  have hA2 := hA1.alloc (Obj.cells #[.int .i64 0, .int .u64 1, .int .u64 0] 34)
  have hA3 := hA2.alloc (Obj.cells #[.int .i64 0, .int .u64 1, .int .u64 0] 34)
  have hM8 := hM7a.keepsN hA3
  go_wp2_with fail
  refine (sagas_at _ p tb mb v7 begunM2 hM8 hok2).mono ?_
  rintro e w8 ⟨u, rfl, hu, hO8⟩
  obtain ⟨ao, cap, rfl⟩ := hu.shape
  go_wp2_with fail
  go_ret
  exact ⟨rfl, (hOb.trans hA3).trans hO8⟩
end Go.Proofs.Ytogeeeigfhmpmaa
