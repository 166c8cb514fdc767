/- A disk that crashed has nothing soft: a second crash, keeping anything, changes nothing: the walk of the law. -/
import Derived.Test.YtdinkbmajcpnbaaLawDiskRuns
import Derived.Deep.CutBlock
namespace Go.Proofs.Ytdinkbmajcpnbaa
open Go.RowKit Go.Maps

theorem leftFile_twice {f g : File} {k : Int} (h : leftFile f k = some g) (l : Int) : leftFile g l = some g := by
  unfold leftFile at h
  simp only at h
  split at h
  · cases h
  · cases h
    unfold leftFile
    simp only [ByteArray.size_empty]
    have hz : (max 0 (min l ((0 : Nat) : Int))).toNat = 0 := by omega
    rw [hz, if_neg (by simp)]
    congr 2
    have : (ByteArray.empty.extract 0 0) = ByteArray.empty := by decide +kernel
    rw [this, ByteArray.append_empty]
theorem crash_twice (M : DM) (k l : Int → Int) : (M.crash k).crash l = M.crash k := by
  unfold DM.crash
  simp only [DM.mk.injEq, and_self, and_true]
  funext x
  rcases hM : M.files x with _ | f
  · rfl
  · simp only
    rcases hl : leftFile f (k x) with _ | g
    · rfl
    · exact leftFile_twice hl _
theorem list_there (F : Fs) : ∀ k, ∀ x ∈ F.list k, (F x).isSome = true
  | 0, x, h => by simp [Fs.list] at h
  | k + 1, x, h => by
    unfold Fs.list at h
    rcases List.mem_append.1 h with h | h
    · exact list_there F k x h
    · split at h
      next hk => simp at h; subst h; exact hk
      · simp at h

section
variable {w w0 : World} {x mx y my : Nat} {C : DM}
theorem gFiles (h : DiskAt w x mx C ∧ DiskAt w y my C ∧ Only NoBlock w0 w) :
    Calls Try.prog 21 #[.pointer (some ⟨x, 0, none⟩)] w fun e w' => ∃ ao cap, e = .returned (.slice ao (C.files.list 16).length cap) ∧ IntsIn w' ao (C.files.list 16) ∧ DiskAt w' x mx C ∧ DiskAt w' y my C ∧ Only NoBlock w0 w' ∧ Only NoBlock w w' :=
  (files_at w x mx C h.1).mono fun _ _ ⟨v, he, hi, hx, ho⟩ => by
    obtain ⟨ao, cap, rfl, hin⟩ := hi.files
    exact ⟨ao, cap, he, hin, hx, h.2.1.keeps ho (fun h => h) (fun h => h), h.2.2.trans ho, ho⟩
theorem gFiles2 {ao1 : Option Addr} {l1 : List Int} (h : DiskAt w x mx C ∧ DiskAt w y my C ∧ Only NoBlock w0 w) (h1 : IntsIn w ao1 l1) :
    Calls Try.prog 21 #[.pointer (some ⟨y, 0, none⟩)] w fun e w' => ∃ ao cap, e = .returned (.slice ao (C.files.list 16).length cap) ∧ IntsIn w' ao (C.files.list 16) ∧ IntsIn w' ao1 l1 ∧ DiskAt w' x mx C ∧ DiskAt w' y my C ∧ Only NoBlock w0 w' :=
  (files_at w y my C h.2.1).mono fun _ _ ⟨v, he, hi, hx, ho⟩ => by
    obtain ⟨ao, cap, rfl, hin⟩ := hi.files
    exact ⟨ao, cap, he, hin, h1.keeps ho (fun _ _ h => h), h.1.keeps ho (fun h => h) (fun h => h), hx, h.2.2.trans ho⟩
theorem gInts {ao1 ao2 : Option Addr} {c1 c2 : Nat} {l : List Int} (h : DiskAt w x mx C ∧ DiskAt w y my C ∧ Only NoBlock w0 w) (h1 : IntsIn w ao1 l) (h2 : IntsIn w ao2 l) :
    Calls Try.prog 20 #[.slice ao1 l.length c1, .slice ao2 l.length c2] w fun e w' => e = .returned (.bool true) ∧ DiskAt w' x mx C ∧ DiskAt w' y my C ∧ Only NoBlock w0 w' :=
  (ints_at w ao1 ao2 c1 c2 l l h1 h2).mono fun _ _ ⟨he, q, hw⟩ => ⟨by simpa using he, by subst hw; exact ⟨h.1.keeps ((Only.refl NoBlock _).drewN q) (fun h => h) (fun h => h), h.2.1.keeps ((Only.refl NoBlock _).drewN q) (fun h => h) (fun h => h), h.2.2.drewN q⟩⟩
theorem gUsed (h : DiskAt w x mx C ∧ DiskAt w y my C ∧ Only NoBlock w0 w) :
    Calls Try.prog 14 #[.pointer (some ⟨x, 0, none⟩)] w fun e w' => e = .returned (.int .i64 C.used) ∧ DiskAt w' x mx C ∧ DiskAt w' y my C ∧ Only NoBlock w0 w' :=
  (used_at w x mx C h.1).mono fun _ _ ⟨he, hx, ho⟩ => ⟨he, hx, h.2.1.keeps ho (fun h => h) (fun h => h), h.2.2.trans ho⟩
theorem gUsed2 (h : DiskAt w x mx C ∧ DiskAt w y my C ∧ Only NoBlock w0 w) :
    Calls Try.prog 14 #[.pointer (some ⟨y, 0, none⟩)] w fun e w' => e = .returned (.int .i64 C.used) ∧ DiskAt w' x mx C ∧ DiskAt w' y my C ∧ Only NoBlock w0 w' :=
  (used_at w y my C h.2.1).mono fun _ _ ⟨he, hy, ho⟩ => ⟨he, h.1.keeps ho (fun h => h) (fun h => h), hy, h.2.2.trans ho⟩
end

set_option maxRecDepth 100000 in
set_option maxHeartbeats 4000000 in
theorem walk_DiskFirm {w : World} (a0 : List CallD × Option Addr × Nat) (hin : CallsIn w a0.2.1 a0.1) (a1 : List Int × Option Addr × Nat) (hk1 : IntsIn w a1.2.1 a1.1) (a2 : List Int × Option Addr × Nat) (hk2 : IntsIn w a2.2.1 a2.1) :
    Calls Try.prog 5 #[.slice a0.2.1 a0.1.length a0.2.2, .slice a1.2.1 a1.1.length a1.2.2, .slice a2.2.1 a2.1.length a2.2.2] w fun e w' => e = .returned (.bool true) ∧ Below w.heap.size w w' := by
  obtain ⟨cs, ao, cap⟩ := a0
  obtain ⟨l1, ao1, cap1⟩ := a1
  obtain ⟨l2, ao2, cap2⟩ := a2
  simp only at hin hk1 hk2 ⊢
  have hlm := hin.len
  unfold maxLen at hlm
  go_enter Try.func5, Try.ntmps5
  go_upto_block 0 with (first
    | (go_at_call 9; refine (begun_ok _).mono ?_; rintro e w1 ⟨rfl, ho1⟩)
    | (go_at_call 10; refine (new_ok _ _ (by decide) (by decide)).mono ?_; rintro e w2 ⟨rfl, hd2, ho2, hs2⟩; clear hs2)
    | (go_at_call 15; refine (rnew_ok _ _ (by decide) (by decide)).mono ?_; rintro e w3 ⟨rfl, hr3, ho3⟩))
  have hp3 : Pair w3 (w1.heap.size + 1) w1.heap.size w2.heap.size (DM.new 1048576) := ⟨hd2.keeps ho3 (fun h => h) (fun h => h), hr3⟩
  have ho4 : Only NoBlock w w3 := (ho1.trans ho2).trans ho3
  have z1 := ho1.size
  have z2 : w.heap.size ≤ w1.heap.size + 1 := by omega
  have z3 : w.heap.size ≤ w2.heap.size := by have := ho2.size; omega
  clear hd2 hr3
  generalize w1.heap.size + 1 = d0 at hp3 z2 ⊢
  generalize w1.heap.size = mb0 at hp3 z1 ⊢
  generalize w2.heap.size = r0 at hp3 z3 ⊢
  generalize DM.new 1048576 = M0 at hp3
  go_cut [7, 9] (fun v7 v9 wx => ∃ (M : DM) (d mb r : Nat), v7 = .pointer (some ⟨d, 0, none⟩) ∧ v9 = .pointer (some ⟨r, 0, none⟩) ∧ Pair wx d mb r M ∧ Only NoBlock w wx)
  case first =>
    go_wp2_with fail
    go_loopw [7, 9, 34] (fun v7 v9 i wr => ∃ (k : Nat) (M : DM) (d mb r : Nat), k ≤ cs.length ∧ i = .int .i64 k ∧ v7 = .pointer (some ⟨d, 0, none⟩) ∧ v9 = .pointer (some ⟨r, 0, none⟩) ∧ Pair wr d mb r M ∧ Only NoBlock w wr ∧ w.heap.size ≤ d ∧ w.heap.size ≤ mb ∧ w.heap.size ≤ r) (fun _ _ i _ => cs.length - (intOf i).toNat)
    case atStart => exact ⟨0, M0, d0, mb0, r0, by omega, rfl, rfl, rfl, hp3, ho4, z2, z1, z3⟩
    case round =>
      obtain ⟨k, M, d, mb, r, hk, rfl, rfl, rfl, hp, ho, y1, y2, y3⟩ := hrel
      by_cases hlt : k < cs.length
      · obtain ⟨b, off, rfl, hcall⟩ := hin.call k hlt
        have hc := hcall.keeps ho
        generalize cs[k] = c at hcall hc
        have q0 := hc.c0
        have q1 := hc.c1
        have q2 := hc.c2
        have q3 := hc.c3
        have q4 := hc.c4
        have hcs := hc.s
        unfold maxLen at hcs
        have hbl : b < wr.heap.size := World.block_lt_of_cell? wr _ q0
        by_cases h200 : k = 200
        · subst h200
          go_wp2_with fail
          go_meet
          exact ⟨M, d, mb, r, rfl, rfl, hp.keeps ((Only.refl NoBlock wr).alloc _) (fun h => h) (fun h => h) (fun h => h), ho.alloc _⟩
        · have hk2 : ((k : Int) == 200) = false := by simp; omega
          by_cases hbig : 1000 < c.s.size
          · go_wp2_with fail
            go_meet
            exact ⟨M, d, mb, r, rfl, rfl, hp.keeps ((Only.refl NoBlock wr).alloc _) (fun h => h) (fun h => h) (fun h => h), ho.alloc _⟩
          · go_wp2_with fail
            have hn := (Only.refl NoBlock wr).alloc (Obj.cells #[.int .i64 c.kind, .int .i64 c.n, .string c.s, .int .i64 c.fuel, .slice c.ao c.keep.length c.cap] 37)
            have hok : c.Ok (wr.alloc (Obj.cells #[.int .i64 c.kind, .int .i64 c.n, .string c.s, .int .i64 c.fuel, .slice c.ao c.keep.length c.cap] 37)) := ⟨hc.n, by omega, hc.fuel, hc.keep.keeps hn (fun _ _ h => h)⟩
            have hd0 := hp.disk.blk.lt
            have hm0 := hp.disk.files.lt
            have hr0 := hp.ref.lt
            refine (both_at _ d mb r M c (hp.keeps hn (fun h => h) (fun h => h) (fun h => h)) hok).mono ?_
            rintro e w4 ⟨d', mb', r', rfl, hp4, ho4', hor⟩
            have hz := ho.size
            have ho5 : Only NoBlock w w4 := (ho.trans hn).andThen ho4' (by rintro i hi (e | e | e) <;> omega)
            have z4 : w.heap.size ≤ d' ∧ w.heap.size ≤ mb' ∧ w.heap.size ≤ r' := by
              rcases hor with ⟨rfl, rfl, rfl⟩ | ⟨u1, u2, u3⟩
              · exact ⟨y1, y2, y3⟩
              · have := hn.size; omega
            generalize M.call c = M4 at hp4
            clear hor ho4' hok hp q0 q1 q2 q3 q4 hc hcall hd0 hm0 hr0 hn
            go_wp2_with fail
            go_roundw
            case rel => exact ⟨k + 1, M4, d', mb', r', by omega, by go_num, rfl, rfl, hp4, ho5, z4.1, z4.2.1, z4.2.2⟩
            case measure => simp [intOf]; omega
      · go_wp2
        go_meet
        exact ⟨M, d, mb, r, rfl, rfl, hp, ho⟩
  case rest =>
    obtain ⟨M, d, mb, r, rfl, rfl, hp, ho⟩ := hcut
    have hk1' := hk1.keeps ho (fun _ _ h => h)
    have hk2' := hk2.keeps ho (fun _ _ h => h)
    have hd := hp.disk
    go_wp2_with fail
    refine (crash_at _ d mb M ao1 cap1 l1 hd hk1').mono ?_
    rintro e w4 ⟨rfl, hx4, hof4⟩
    go_wp2_with fail
    refine (crash_at _ _ _ _ ao2 cap2 l2 hx4 (hk2'.keeps hof4 (fun _ _ h => h))).mono ?_
    rintro e w5 ⟨rfl, hy5, hof5⟩
    have hx5 := hx4.keeps hof5 (fun h => h) (fun h => h)
    have ho5 := (ho.trans hof4).trans hof5
    rw [crash_twice] at hy5
    have hCoff : (M.crash (keepOf l1)).off = false := rfl
    generalize M.crash (keepOf l1) = C at hx5 hy5 hCoff
    have HC := Lib.hid hCoff
    clear hCoff
    clear hx4 hof4 hof5 hd hp hk1' hk2'
    generalize wc.heap.size + 1 = x at hx5 ⊢
    generalize wc.heap.size = mx at hx5 ⊢
    generalize w4.heap.size + 1 = y at hy5 ⊢
    generalize w4.heap.size = my at hy5 ⊢
    have hS : DiskAt w5 x mx C ∧ DiskAt w5 y my C ∧ Only NoBlock w w5 := ⟨hx5, hy5, ho5⟩
    go_wp2_with fail
    refine (gFiles hS).mono ?_
    rintro e w6 ⟨ao3, cap3, rfl, hi3, hS6a, hS6b, hS6c, _⟩
    have hS6 := And.intro hS6a (And.intro hS6b hS6c)
    clear hS hx5 hy5 ho5 hS6a hS6b hS6c
    go_wp2_with fail
    refine (gFiles2 hS6 hi3).mono ?_
    rintro e w7 ⟨ao4, cap4, rfl, hi4, hi5, hS7⟩
    clear hS6 hi3
    go_wp2_with fail
    refine (gInts hS7 hi5 hi4).mono ?_
    rintro e w8 ⟨rfl, hS8⟩
    clear hS7
    go_wp2_with fail
    refine (gUsed hS8).mono ?_
    rintro e w9 ⟨rfl, hS9⟩
    clear hS8
    go_wp2_with fail
    refine (gUsed2 hS9).mono ?_
    rintro e w10 ⟨rfl, hS10⟩
    clear hS9
    go_wp2_with fail
    refine (gFiles hS10).mono ?_
    rintro e w11 ⟨ao5, cap5, rfl, hi11, hx11, hy11, ho11, _⟩
    clear hS10 hi4 hi5
    have hL : ∀ n ∈ C.files.list 16, C.readE n = 0 := fun n hn => by
      have h1 := list_there C.files 16 n hn
      have h2 := HC.out
      simp [DM.readE, h1, h2]
    have HL := Lib.hid hL
    clear hL HC
    generalize C.files.list 16 = L at hi11 HL ⊢
    go_wp2_with fail
    go_loopw [80] (fun i wr => ∃ k : Nat, k ≤ L.length ∧ i = .int .i64 k ∧ DiskAt wr x mx C ∧ DiskAt wr y my C ∧ IntsIn wr ao5 L ∧ Only NoBlock w wr) (fun i _ => L.length - (intOf i).toNat)
    case atStart => exact ⟨0, by omega, rfl, hx11, hy11, hi11, ho11⟩
    case round =>
      obtain ⟨k, hk, rfl, hx, hy, hi, ho⟩ := hrel
      by_cases hlt : k < L.length
      · obtain ⟨b, off, rfl, hcell⟩ := hi.cell k hlt
        have hmem : L.getD k 0 ∈ L := by rw [List.getD_eq_getElem?_getD, List.getElem?_eq_getElem hlt]; exact List.getElem_mem hlt
        have hw := hi.wf _ hmem
        have hE := HL.out _ hmem
        have hlm2 := hi.len
        unfold maxLen at hlm2
        clear hmem
        generalize L.getD k 0 = n at hcell hw hE
        have HE := Lib.hid hE
        clear hE
        go_wp2_with fail
        refine (read_as (k := 0) (s := C.read n) hx hw HE.out rfl).mono ?_
        rintro e w12 ⟨rfl, ho12⟩
        go_wp2_with fail
        refine (read_as (k := 0) (s := C.read n) (hy.keeps ho12 (fun h => h) (fun h => h)) hw HE.out rfl).mono ?_
        rintro e w13 ⟨rfl, ho13⟩
        generalize C.read n = sv
        go_wp2_with fail
        go_roundw
        case rel => exact ⟨k + 1, by omega, by go_num, (hx.keeps ho12 (fun h => h) (fun h => h)).keeps ho13 (fun h => h) (fun h => h), (hy.keeps ho12 (fun h => h) (fun h => h)).keeps ho13 (fun h => h) (fun h => h), (hi.keeps ho12 (fun _ _ h => h)).keeps ho13 (fun _ _ h => h), (ho.trans ho12).trans ho13⟩
        case measure => simp [intOf]; omega
      · go_wp2
        go_ret
        exact ⟨rfl, ho.below (Nat.le_refl _) (fun _ h => h.elim)⟩

end Go.Proofs.Ytdinkbmajcpnbaa
