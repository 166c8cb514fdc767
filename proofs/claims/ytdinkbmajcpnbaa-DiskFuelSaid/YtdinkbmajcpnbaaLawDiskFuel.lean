/- With fuel for so many steps just so many are done: the walk of the law. -/
import Derived.Test.YtdinkbmajcpnbaaBegun4
namespace Go.Proofs.Ytdinkbmajcpnbaa
open Go.RowKit Go.Maps

def xs1 : ByteArray := ⟨#[120]⟩
/-- the disk behind i tries, of which the first f have fuel -/
structure Tried (M : DM) (f i : Nat) : Prop where
  room : M.room = 1000
  off : M.off = decide (f < i)
  fuel : i ≤ f → M.fuel = ((f - i : Nat) : Int)
  used : M.used = min i f

theorem used_append {M : DM} {n : Int} {s : ByteArray} (h0 : 0 ≤ n) (h1 : n < 16) (hoff : M.off = false) (hroom : M.used + s.size ≤ M.room) (hst : M.steps = true) : (M.append n s).used = M.used + s.size := by
  have hx : ¬ (n < 0 ∨ 16 ≤ n) := by omega
  have hf : ¬ (M.room < M.used + s.size) := by omega
  have ht := tot_put (F := M.files) h0 h1 (((M.files n).getD noFile).1, ((M.files n).getD noFile).2 ++ s)
  have hz := getD_fsz (o := M.files n) (fa := ((M.files n).getD noFile).1) (fb := ((M.files n).getD noFile).2) rfl
  unfold DM.append
  rw [if_neg hx, if_neg (by rw [hoff]; simp), if_neg hf, if_neg (by rw [hst]; simp)]
  show tot (M.files.put n _) 16 = tot M.files 16 + s.size
  simp only [ByteArray.size_append] at ht
  omega

theorem tried_next {M : DM} {f i : Nat} (h : Tried M f i) (hf : f < 50) {n : Int} (h0 : 0 ≤ n) (h1 : n < 16) :
    M.appendE n xs1 = (if i < f then 0 else 10) ∧ Tried (M.append n xs1) f (i + 1) := by
  have hx : ¬ (n < 0 ∨ 16 ≤ n) := by omega
  have hs : xs1.size = 1 := rfl
  have hu := h.used
  have hr := h.room
  by_cases hlt : i < f
  · have hoff : M.off = false := by rw [h.off]; simp; omega
    have hfu := h.fuel (by omega)
    have hst : M.steps = true := steps_of hoff (by omega)
    have hroom : ¬ (M.room < M.used + xs1.size) := by omega
    have hua := used_append (s := xs1) h0 h1 hoff (by omega) hst
    refine ⟨?_, ?_, ?_, ?_, ?_⟩
    · unfold DM.appendE
      rw [if_neg hx, if_neg (by rw [hoff]; simp), if_neg hroom, if_neg (by rw [hst]; simp), if_pos hlt]
    · unfold DM.append
      rw [if_neg hx, if_neg (by rw [hoff]; simp), if_neg hroom, if_neg (by rw [hst]; simp)]
      show M.stepped.room = 1000
      rw [stepped_room, hr]
    · unfold DM.append
      rw [if_neg hx, if_neg (by rw [hoff]; simp), if_neg hroom, if_neg (by rw [hst]; simp)]
      show M.stepped.off = _
      unfold DM.stepped
      rw [if_neg (by rw [hoff]; simp), if_neg (by omega), if_pos (by omega)]
      show M.off = _
      rw [hoff]; simp; omega
    · intro hle
      unfold DM.append
      rw [if_neg hx, if_neg (by rw [hoff]; simp), if_neg hroom, if_neg (by rw [hst]; simp)]
      show M.stepped.fuel = _
      unfold DM.stepped
      rw [if_neg (by rw [hoff]; simp), if_neg (by omega), if_pos (by omega)]
      show M.fuel - 1 = _
      omega
    · rw [hua]; omega
  · by_cases he : i = f
    · subst he
      have hoff : M.off = false := by rw [h.off]; simp
      have hfu : M.fuel = 0 := by have := h.fuel (Nat.le_refl _); omega
      have hst : M.steps = false := by simp [DM.steps, hfu]
      have hroom : ¬ (M.room < M.used + xs1.size) := by omega
      have e : M.append n xs1 = { M with off := true } := by
        unfold DM.append
        rw [if_neg hx, if_neg (by rw [hoff]; simp), if_neg hroom, if_pos hst]
        unfold DM.stepped
        rw [if_neg (by rw [hoff]; simp), if_pos hfu]
      rw [e]
      refine ⟨?_, hr, by simp, by omega, ?_⟩
      · unfold DM.appendE
        rw [if_neg hx, if_neg (by rw [hoff]; simp), if_neg hroom, if_pos hst, if_neg hlt]
      · show M.used = _
        omega
    · have hoff : M.off = true := by rw [h.off]; simp; omega
      have e : M.append n xs1 = M := by
        unfold DM.append
        rw [if_neg hx, if_pos hoff]
      rw [e]
      refine ⟨?_, hr, by rw [hoff]; simp; omega, by omega, by omega⟩
      unfold DM.appendE
      rw [if_neg hx, if_pos hoff, if_neg hlt]

theorem walk_DiskFuel (a0 : Int) (w0 : (Lit.int .i64 a0).wf = true) (a1 : Int) (w1 : (Lit.int .i64 a1).wf = true) (w : World) :
    Calls Try.prog 3 #[.int .i64 a0, .int .i64 a1] w fun e w' => e = .returned (.bool true) ∧ Below w.heap.size w w' := by
  clear w0 w1
  go_enter Try.func3, Try.ntmps3
  go_wp2_with fail
  refine (begun_ok w).mono ?_
  rintro e w1 ⟨rfl, ho1⟩
  go_wp2_with fail
  obtain ⟨f, hf, ef⟩ := norm_mod a0 50 (by omega) (by omega)
  obtain ⟨n, hn, en⟩ := norm_mod a1 80 (by omega) (by omega)
  rw [show ((50 : Nat) : Int) = 50 from rfl] at ef
  rw [show ((80 : Nat) : Int) = 80 from rfl] at en
  rw [ef, en]
  clear ef en
  refine (new_ok w1 1000 (by omega) (by omega)).mono ?_
  rintro e w2 ⟨rfl, hd2, ho2, hs2⟩
  go_wp2_with fail
  refine (fuel_at w2 _ _ _ f (by omega) hd2).mono ?_
  rintro e w3 ⟨rfl, hd3, ho3⟩
  have hT : Tried ((DM.new 1000).setFuel f) f 0 := by
    refine ⟨rfl, ?_, ?_, ?_⟩
    · simp [DM.setFuel, DM.new]
    · intro _
      unfold DM.setFuel
      rw [if_neg (by omega)]
      simp
    · show tot (fun _ => none) 16 = min 0 f
      rw [tot_none]; omega
  generalize (DM.new 1000).setFuel (f : Int) = M0 at hd3 hT
  have hws := ho1.size
  have ho4 : Only NoBlock w w3 := (ho1.trans ho2).andThen ho3 (fun i hi e => by omega)
  clear hd2 ho2 ho3 hs2
  generalize w1.heap.size = db at *
  go_wp2_with fail
  go_loopw [7, 27] (fun dn i wr => ∃ (k m : Nat) (M : DM), k ≤ n ∧ i = .int .i64 k ∧ dn = .int .i64 m ∧ m = min k f ∧ Tried M f k ∧ DiskAt wr (db + 1) db M ∧ Only NoBlock w wr) (fun _ i _ => n - (intOf i).toNat)
  case atStart => exact ⟨0, 0, M0, by omega, rfl, rfl, by simp, hT, hd3, ho4⟩
  case round =>
    obtain ⟨k, m, M, hk, rfl, rfl, hm, hT, hd, ho⟩ := hrel
    by_cases hlt : k < n
    · have hx := tried_next hT hf (n := (k : Int) % 16) (by omega) (by omega)
      rcases Nat.lt_trichotomy k f with hkf | hkf | hkf
      · have hmk : m = k := by omega
        subst hmk
        clear hm
        have e1 : M.off = false := by rw [hT.off]; simp; omega
        have e2 : M.appendE ((m : Int) % 16) xs1 = 0 := by rw [hx.1, if_pos hkf]
        go_wp2_with fail
        refine (off_as hd e1).mono ?_
        rintro e w5 ⟨rfl, rfl⟩
        go_wp2_with fail
        refine (append_as hd (by decide) e2 rfl).mono ?_
        rintro e w6 ⟨rfl, hd6, ho6⟩
        go_wp2_with fail
        go_roundw
        case rel => exact ⟨m + 1, m + 1, _, by omega, by go_num, by go_num, by omega, hx.2, hd6, ho.andThen ho6 (fun i hi e => by omega)⟩
        case measure => simp [intOf]; omega
      · have hmk : m = f := by omega
        subst hmk
        subst hkf
        clear hm
        have e1 : M.off = false := by rw [hT.off]; simp
        have e2 : M.appendE ((k : Int) % 16) xs1 = 10 := by rw [hx.1, if_neg (by omega)]
        go_wp2_with fail
        refine (off_as hd e1).mono ?_
        rintro e w5 ⟨rfl, rfl⟩
        go_wp2_with fail
        refine (append_as hd (by decide) e2 rfl).mono ?_
        rintro e w6 ⟨rfl, hd6, ho6⟩
        go_wp2_with fail
        go_roundw
        case rel => exact ⟨k + 1, k, _, by omega, by go_num, rfl, by omega, hx.2, hd6, ho.andThen ho6 (fun i hi e => by omega)⟩
        case measure => simp [intOf]; omega
      · have hmk : m = f := by omega
        subst hmk
        clear hm
        have e1 : M.off = true := by rw [hT.off]; simp; omega
        have e2 : M.appendE ((k : Int) % 16) xs1 = 10 := by rw [hx.1, if_neg (by omega)]
        go_wp2_with fail
        refine (off_as hd e1).mono ?_
        rintro e w5 ⟨rfl, rfl⟩
        go_wp2_with fail
        refine (append_as hd (by decide) e2 rfl).mono ?_
        rintro e w6 ⟨rfl, hd6, ho6⟩
        go_wp2_with fail
        go_roundw
        case rel => exact ⟨k + 1, m, _, by omega, by go_num, rfl, by omega, hx.2, hd6, ho.andThen ho6 (fun i hi e => by omega)⟩
        case measure => simp [intOf]; omega
    · have hkn : k = n := by omega
      subst hkn
      have hu : M.used = m := by rw [hT.used, hm]
      rcases Nat.lt_trichotomy k f with hkf | hkf | hkf
      · have hmk : m = k := by omega
        subst hmk
        clear hm
        have e1 : M.off = false := by rw [hT.off]; simp; omega
        go_wp2_with fail
        refine (used_as hd hu).mono ?_
        rintro e w5 ⟨rfl, hd5, ho5⟩
        go_wp2_with fail
        refine (off_as hd5 e1).mono ?_
        rintro e w6 ⟨rfl, rfl⟩
        go_wp2_with fail
        go_ret
        exact ⟨by first | rfl | (simp; omega), (ho.trans ho5).below (Nat.le_refl _) (fun _ h => h.elim)⟩
      · have hmk : m = f := by omega
        subst hmk
        subst hkf
        clear hm
        have e1 : M.off = false := by rw [hT.off]; simp
        go_wp2_with fail
        refine (used_as hd hu).mono ?_
        rintro e w5 ⟨rfl, hd5, ho5⟩
        go_wp2_with fail
        refine (off_as hd5 e1).mono ?_
        rintro e w6 ⟨rfl, rfl⟩
        go_wp2_with fail
        go_ret
        exact ⟨by first | rfl | (simp; omega), (ho.trans ho5).below (Nat.le_refl _) (fun _ h => h.elim)⟩
      · have hmk : m = f := by omega
        subst hmk
        clear hm
        have e1 : M.off = true := by rw [hT.off]; simp; omega
        go_wp2_with fail
        refine (used_as hd hu).mono ?_
        rintro e w5 ⟨rfl, hd5, ho5⟩
        go_wp2_with fail
        refine (off_as hd5 e1).mono ?_
        rintro e w6 ⟨rfl, rfl⟩
        go_wp2_with fail
        go_ret
        exact ⟨by first | rfl | (simp; omega), (ho.trans ho5).below (Nat.le_refl _) (fun _ h => h.elim)⟩

end Go.Proofs.Ytdinkbmajcpnbaa
