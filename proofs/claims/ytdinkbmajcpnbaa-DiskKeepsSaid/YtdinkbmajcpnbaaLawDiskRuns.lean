/- Call by call a disk answers what the document says, with the same files behind each: the walk of the law. -/
import Derived.Test.YtdinkbmajcpnbaaOpen4
namespace Go.Proofs.Ytdinkbmajcpnbaa
open Go.RowKit Go.Maps

theorem CallAt.keeps {w w' : World} {b o : Nat} {c : CallD} (h : CallAt w b o c) (ho : Only NoBlock w w') : CallAt w' b o c :=
  ⟨keeps_cell ho (fun h => h) h.c0, keeps_cell ho (fun h => h) h.c1, keeps_cell ho (fun h => h) h.c2, keeps_cell ho (fun h => h) h.c3, keeps_cell ho (fun h => h) h.c4, h.n, h.s, h.fuel, h.keep.keeps ho (fun _ _ h => h)⟩

section
variable {w w0 : World} {d mb r : Nat} {M : DM}
theorem hOff (h : w.cell? ⟨r, 50, none⟩ = some (.bool M.off) ∧ w.cell? ⟨r, 48, none⟩ = some (.int .i64 M.room) ∧ Pair w d mb r M ∧ Only NoBlock w0 w) :
    Calls Try.prog 12 #[.pointer (some ⟨d, 0, none⟩)] w fun e w' => e = .returned (.bool M.off) ∧ w = w' := off_at w d mb M h.2.2.1.disk
theorem hPair {w' : World} (h : Pair w d mb r M ∧ Only NoBlock w0 w) (ho : Only NoBlock w w') :
    w'.cell? ⟨r, 50, none⟩ = some (.bool M.off) ∧ w'.cell? ⟨r, 48, none⟩ = some (.int .i64 M.room) ∧ Pair w' d mb r M ∧ Only NoBlock w0 w' := by
  have hp := h.1.keeps ho (fun h => h) (fun h => h) (fun h => h)
  exact ⟨hp.ref.cOff, hp.ref.cRoom, hp, h.2.trans ho⟩
theorem hUsed (h : w.cell? ⟨r, 50, none⟩ = some (.bool M.off) ∧ w.cell? ⟨r, 48, none⟩ = some (.int .i64 M.room) ∧ Pair w d mb r M ∧ Only NoBlock w0 w) :
    Calls Try.prog 14 #[.pointer (some ⟨d, 0, none⟩)] w fun e w' => e = .returned (.int .i64 M.used) ∧ w'.cell? ⟨r, 50, none⟩ = some (.bool M.off) ∧ w'.cell? ⟨r, 48, none⟩ = some (.int .i64 M.room) ∧ Pair w' d mb r M ∧ Only NoBlock w0 w' :=
  (used_at w d mb M h.2.2.1.disk).mono fun _ _ ⟨he, _, ho⟩ => ⟨he, hPair h.2.2 ho⟩
theorem hRUsed (h : w.cell? ⟨r, 50, none⟩ = some (.bool M.off) ∧ w.cell? ⟨r, 48, none⟩ = some (.int .i64 M.room) ∧ Pair w d mb r M ∧ Only NoBlock w0 w) :
    Calls Try.prog 23 #[.pointer (some ⟨r, 0, none⟩)] w fun e w' => e = .returned (.int .i64 M.used) ∧ w'.cell? ⟨r, 50, none⟩ = some (.bool M.off) ∧ w'.cell? ⟨r, 48, none⟩ = some (.int .i64 M.room) ∧ Pair w' d mb r M ∧ Only NoBlock w0 w' :=
  (rused_at w r M h.2.2.1.ref).mono fun _ _ ⟨he, q, hw⟩ => ⟨he, by subst hw; exact hPair h.2.2 ((Only.refl _ _).drewN q)⟩
theorem hFree (h : w.cell? ⟨r, 50, none⟩ = some (.bool M.off) ∧ w.cell? ⟨r, 48, none⟩ = some (.int .i64 M.room) ∧ Pair w d mb r M ∧ Only NoBlock w0 w) :
    Calls Try.prog 24 #[.pointer (some ⟨d, 0, none⟩)] w fun e w' => e = .returned (.int .i64 (M.room - M.used)) ∧ w'.cell? ⟨r, 50, none⟩ = some (.bool M.off) ∧ w'.cell? ⟨r, 48, none⟩ = some (.int .i64 M.room) ∧ Pair w' d mb r M ∧ Only NoBlock w0 w' :=
  (free_at w d mb M h.2.2.1.disk).mono fun _ _ ⟨he, _, ho⟩ => ⟨he, hPair h.2.2 ho⟩
theorem hFiles (h : w.cell? ⟨r, 50, none⟩ = some (.bool M.off) ∧ w.cell? ⟨r, 48, none⟩ = some (.int .i64 M.room) ∧ Pair w d mb r M ∧ Only NoBlock w0 w) :
    Calls Try.prog 21 #[.pointer (some ⟨d, 0, none⟩)] w fun e w' => ∃ ao cap, e = .returned (.slice ao (M.files.list 16).length cap) ∧ IntsIn w' ao (M.files.list 16) ∧ w'.cell? ⟨r, 50, none⟩ = some (.bool M.off) ∧ w'.cell? ⟨r, 48, none⟩ = some (.int .i64 M.room) ∧ Pair w' d mb r M ∧ Only NoBlock w0 w' :=
  (files_at w d mb M h.2.2.1.disk).mono fun _ _ ⟨v, he, hi, _, ho⟩ => by
    obtain ⟨ao, cap, rfl, hin⟩ := hi.files
    exact ⟨ao, cap, he, hin, hPair h.2.2 ho⟩
theorem hRFiles {ao1 : Option Addr} {l1 : List Int} (h : w.cell? ⟨r, 50, none⟩ = some (.bool M.off) ∧ w.cell? ⟨r, 48, none⟩ = some (.int .i64 M.room) ∧ Pair w d mb r M ∧ Only NoBlock w0 w) (h1 : IntsIn w ao1 l1) :
    Calls Try.prog 25 #[.pointer (some ⟨r, 0, none⟩)] w fun e w' => ∃ ao cap, e = .returned (.slice ao (M.files.list 16).length cap) ∧ IntsIn w' ao (M.files.list 16) ∧ IntsIn w' ao1 l1 ∧ w'.cell? ⟨r, 50, none⟩ = some (.bool M.off) ∧ w'.cell? ⟨r, 48, none⟩ = some (.int .i64 M.room) ∧ Pair w' d mb r M ∧ Only NoBlock w0 w' :=
  (rfiles_at w r M h.2.2.1.ref).mono fun _ _ ⟨v, he, hi, ho⟩ => by
    obtain ⟨ao, cap, rfl, hin⟩ := hi.files
    exact ⟨ao, cap, he, hin, h1.keeps ho (fun _ _ h => h), hPair h.2.2 ho⟩
theorem hInts {ao1 ao2 : Option Addr} {c1 c2 : Nat} {l : List Int} (h : w.cell? ⟨r, 50, none⟩ = some (.bool M.off) ∧ w.cell? ⟨r, 48, none⟩ = some (.int .i64 M.room) ∧ Pair w d mb r M ∧ Only NoBlock w0 w) (h1 : IntsIn w ao1 l) (h2 : IntsIn w ao2 l) :
    Calls Try.prog 20 #[.slice ao1 l.length c1, .slice ao2 l.length c2] w fun e w' => e = .returned (.bool true) ∧ w'.cell? ⟨r, 50, none⟩ = some (.bool M.off) ∧ w'.cell? ⟨r, 48, none⟩ = some (.int .i64 M.room) ∧ Pair w' d mb r M ∧ Only NoBlock w0 w' :=
  (ints_at w ao1 ao2 c1 c2 l l h1 h2).mono fun _ _ ⟨he, q, hw⟩ => ⟨by simpa using he, by subst hw; exact hPair h.2.2 ((Only.refl _ _).drewN q)⟩
end

set_option maxRecDepth 100000 in
set_option maxHeartbeats 4000000 in
theorem walk_DiskRuns {w : World} (a0 : Int) (_w0 : (Lit.int .i64 a0).wf = true) (a1 : List CallD × Option Addr × Nat) (hin : CallsIn w a1.2.1 a1.1) :
    Calls Try.prog 6 #[.int .i64 a0, .slice a1.2.1 a1.1.length a1.2.2] w fun e w' => e = .returned (.bool true) ∧ Below w.heap.size w w' := by
  obtain ⟨cs, ao, cap⟩ := a1
  simp only at hin ⊢
  have hlm := hin.len
  unfold maxLen at hlm
  clear _w0
  by_cases hroom : a0 < 0 ∨ 1048576 < a0
  · go_enter Try.func6, Try.ntmps6
    go_wp2_with (first
      | (go_at_call 9; refine (begun_ok _).mono ?_; rintro e w1 ⟨rfl, ho1⟩)
      | (go_at_call 10; refine (new_no _ _ hroom).mono ?_; rintro e w2 ⟨rfl, rfl⟩)
      | (go_at_call 15; refine (rnew_no _ _ hroom).mono ?_; rintro e w3 ⟨rfl, rfl⟩))
    go_ret
    exact ⟨rfl, ho1.below (Nat.le_refl _) (fun _ h => h.elim)⟩
  · have h0 : 0 ≤ a0 := by omega
    have h1 : a0 ≤ 1048576 := by omega
    go_enter Try.func6, Try.ntmps6
    go_wp2_with (first
      | (go_at_call 9; refine (begun_ok _).mono ?_; rintro e w1 ⟨rfl, ho1⟩)
      | (go_at_call 10; refine (new_ok _ _ h0 h1).mono ?_; rintro e w2 ⟨rfl, hd2, ho2, hs2⟩; clear hs2)
      | (go_at_call 15; refine (rnew_ok _ _ h0 h1).mono ?_; rintro e w3 ⟨rfl, hr3, ho3⟩))
    have hp3 : Pair w3 (w1.heap.size + 1) w1.heap.size w2.heap.size (DM.new a0) := ⟨hd2.keeps ho3 (fun h => h) (fun h => h), hr3⟩
    have ho4 : Only NoBlock w w3 := (ho1.trans ho2).trans ho3
    have z1 := ho1.size
    have z2 : w.heap.size ≤ w1.heap.size + 1 := by omega
    have z3 : w.heap.size ≤ w2.heap.size := by have := ho2.size; omega
    clear hd2 hr3
    generalize w1.heap.size + 1 = d0 at hp3 z2 ⊢
    generalize w1.heap.size = mb0 at hp3 z1 ⊢
    generalize w2.heap.size = r0 at hp3 z3 ⊢
    generalize DM.new a0 = M0 at hp3
    go_loopw [5, 7, 43] (fun v5 v7 i wr => ∃ (k : Nat) (M : DM) (d mb r : Nat), k ≤ cs.length ∧ i = .int .i64 k ∧ v5 = .pointer (some ⟨d, 0, none⟩) ∧ v7 = .pointer (some ⟨r, 0, none⟩) ∧ Pair wr d mb r M ∧ Only NoBlock w wr ∧ w.heap.size ≤ d ∧ w.heap.size ≤ mb ∧ w.heap.size ≤ r) (fun _ _ i _ => cs.length - (intOf i).toNat)
    case atStart => exact ⟨0, M0, d0, mb0, r0, by omega, rfl, rfl, rfl, hp3, ho4, z2, z1, z3⟩
    case round =>
      obtain ⟨k, M, d, mb, r, hk, rfl, rfl, rfl, hp, ho, y1, y2, y3⟩ := hrel
      by_cases hlt : k < cs.length
      · obtain ⟨b, off, rfl, hcall⟩ := hin.call k hlt
        have hc := hcall.keeps ho
        generalize cs[k] = c at hcall hc
        have q0 := hc.c0
        have q1 := hc.c1
        have q2 := hc.c2
        have q3 := hc.c3
        have q4 := hc.c4
        have hcs := hc.s
        unfold maxLen at hcs
        have hbl : b < wr.heap.size := World.block_lt_of_cell? wr _ q0
        by_cases h200 : k = 200
        · subst h200
          go_wp2_with fail
          go_ret
          exact ⟨rfl, (ho.alloc _).below (Nat.le_refl _) (fun _ h => h.elim)⟩
        · have hk2 : ((k : Int) == 200) = false := by simp; omega
          by_cases hbig : 10000 < c.s.size
          · go_wp2_with fail
            go_ret
            exact ⟨rfl, (ho.alloc _).below (Nat.le_refl _) (fun _ h => h.elim)⟩
          · go_wp2_with fail
            have hn := (Only.refl NoBlock wr).alloc (Obj.cells #[.int .i64 c.kind, .int .i64 c.n, .string c.s, .int .i64 c.fuel, .slice c.ao c.keep.length c.cap] 37)
            have hok : c.Ok (wr.alloc (Obj.cells #[.int .i64 c.kind, .int .i64 c.n, .string c.s, .int .i64 c.fuel, .slice c.ao c.keep.length c.cap] 37)) := ⟨hc.n, by omega, hc.fuel, hc.keep.keeps hn (fun _ _ h => h)⟩
            have hbx := Blk.made wr #[.int .i64 c.kind, .int .i64 c.n, .string c.s, .int .i64 c.fuel, .slice c.ao c.keep.length c.cap] 37
            have hd0 := hp.disk.blk.lt
            have hm0 := hp.disk.files.lt
            have hr0 := hp.ref.lt
            refine (both_at _ d mb r M c (hp.keeps hn (fun h => h) (fun h => h) (fun h => h)) hok).mono ?_
            rintro e w4 ⟨d', mb', r', rfl, hp4, ho4, hor⟩
            have hbx4 := hbx.keeps ho4 (by rintro (e | e | e) <;> omega)
            have hnw : (Lit.int .i64 c.n).wf = true := hc.n
            have x1 : w4.cell? ⟨wr.heap.size, 1, none⟩ = some (.int .i64 c.n) := by rw [hbx4.cell]; rfl
            have hz := ho.size
            have ho5 : Only NoBlock w w4 := (ho.trans hn).andThen ho4 (by rintro i hi (e | e | e) <;> omega)
            have z4 : w.heap.size ≤ d' ∧ w.heap.size ≤ mb' ∧ w.heap.size ≤ r' := by
              rcases hor with ⟨rfl, rfl, rfl⟩ | ⟨u1, u2, u3⟩
              · exact ⟨y1, y2, y3⟩
              · have := hn.size; omega
            generalize M.call c = M4 at hp4
            have hbb := hbx4.lt
            clear hor ho4 hbx hbx4 hok hp q0 q1 q2 q3 q4 hc hcall hd0 hm0 hr0 hn
            go_wp2_with fail
            refine (read_at w4 d' mb' M4 c.n hp4.disk hnw).mono ?_
            rintro e w5 ⟨rfl, ho6⟩
            have x2 := keeps_cell (a := ⟨wr.heap.size, 1, none⟩) ho6 (fun h => h) x1
            have hp5 := hp4.keeps ho6 (fun h => h) (fun h => h) (fun h => h)
            go_wp2_with fail
            refine (rread_at w5 r' M4 c.n hp5.ref).mono ?_
            rintro e w6 ⟨rfl, ho7⟩
            have hp6 := hp5.keeps ho7 (fun h => h) (fun h => h) (fun h => h)
            have ho8 := (ho5.trans ho6).trans ho7
            clear ho5 ho6 ho7 hp4 hp5 x1 x2
            go_wp2_with fail
            have hS := hPair ⟨hp6, ho8⟩ (Only.refl NoBlock w6).drew
            have r0' := hp6.disk.ok.room0
            have r1' := hp6.disk.ok.room1
            have ru' := hp6.disk.ok.used
            have hsub : IntKind.i64.wrap (M4.room - (M4.used : Int)) = M4.room - (M4.used : Int) := IntWalk.i64_in _ (by omega)
            clear hp6 ho8
            generalize M4.read c.n = sv
            generalize M4.readE c.n = ev
            go_region_held3 (fun w' => w'.cell? ⟨r', 50, none⟩ = some (.bool M4.off) ∧ w'.cell? ⟨r', 48, none⟩ = some (.int .i64 M4.room) ∧ Pair w' d' mb' r' M4 ∧ Only NoBlock w w')
              (first | exact hS | assumption | go_keep)
              (first
                | (go_at_call 12; refine (hOff (M := M4) (mb := mb') (r := r') (w0 := w) ?_).mono ?_; (assumption); rintro e w7 ⟨rfl, rfl⟩)
                | (go_at_call 14; refine (hUsed (M := M4) (mb := mb') (r := r') (w0 := w) ?_).mono ?_; (assumption); rintro e w8 ⟨rfl, hS8⟩)
                | (go_at_call 23; refine (hRUsed (M := M4) (mb := mb') (d := d') (w0 := w) ?_).mono ?_; (assumption); rintro e w9 ⟨rfl, hS9⟩)
                | (go_at_call 24; refine (hFree (M := M4) (mb := mb') (r := r') (w0 := w) ?_).mono ?_; (assumption); rintro e w10 ⟨rfl, hS10⟩)
                | (go_at_call 21; refine (hFiles (M := M4) (mb := mb') (r := r') (w0 := w) ?_).mono ?_; (assumption); rintro e w11 ⟨ao1, cap1, rfl, hi1, hS11⟩)
                | (go_at_call 25; refine (hRFiles (M := M4) (mb := mb') (d := d') (w0 := w) ?_ hi1).mono ?_; (assumption); rintro e w12 ⟨ao2, cap2, rfl, hi2, hi3, hS12⟩)
                | (go_at_call 20; refine (hInts (M := M4) (mb := mb') (d := d') (r := r') (w0 := w) ?_ hi3 hi2).mono ?_; (assumption); rintro e w13 ⟨rfl, hS13⟩))
            clear hsub
            go_wp2_with fail
            go_roundw
            case rel =>
              obtain ⟨_, _, hpf, hof⟩ := hS13
              exact ⟨k + 1, M4, d', mb', r', by omega, by go_num, rfl, rfl, hpf, hof, z4.1, z4.2.1, z4.2.2⟩
            case measure => simp [intOf]; omega
      · go_wp2
        go_ret
        exact ⟨rfl, ho.below (Nat.le_refl _) (fun _ h => h.elim)⟩

end Go.Proofs.Ytdinkbmajcpnbaa
