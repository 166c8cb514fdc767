/- A disk of one file, in plain data: what the log's calls make of it. -/
import Derived.Test.YtfmpmdkedpollaaLogM
namespace Go.Proofs.Ytfmpmdkedpollaa
open Go.RowKit

/-- the greatest disk, with the file n and no other -/
def one (n : Int) (o : Option File) (fuel : Int) (off : Bool) : DM := ⟨fun x => if x = n then o else none, 1048576, fuel, off⟩

namespace One
theorem new (n : Int) : DM.new 1048576 = one n none (-1) false := by
  unfold DM.new one
  congr 1
  funext x
  split <;> rfl
theorem files (n : Int) (o : Option File) (F : Int) (b : Bool) : (one n o F b).files n = o := by simp [one]
theorem used {n : Int} (h0 : 0 ≤ n) (h1 : n < 16) (o : Option File) (F : Int) (b : Bool) : (one n o F b).used = fsz o := by
  obtain ⟨m, rfl⟩ := Int.eq_ofNat_of_zero_le h0
  have := tot_upd (F := fun _ => none) (G := (one m o F b).files) (x := m) (n := 16) (by omega) (fun i hi => by unfold one; simp only; rw [if_neg (by omega)])
  rw [files, tot_none] at this
  have e : fsz ((fun _ => none : Fs) (m : Int)) = 0 := rfl
  rw [e] at this
  unfold DM.used
  omega
theorem put (n : Int) (o : Option File) (F : Int) (b : Bool) (f : File) : (one n o F b).files.put n f = (one n (some f) F b).files := by
  funext x
  unfold Fs.put one
  simp only
  split <;> rfl
theorem setFuel (n : Int) (o : Option File) (F G : Int) (b : Bool) : (one n o F b).setFuel G = one n o (if G < -1 then -1 else G) b := rfl
theorem crash (n : Int) (o : Option File) (F : Int) (b : Bool) (keep : Int → Int) : (one n o F b).crash keep = one n (match o with | none => none | some f => leftFile f (keep n)) (-1) false := by
  unfold DM.crash one
  congr 1
  funext x
  simp only
  by_cases e : x = n
  · subst e
    rw [if_pos rfl, if_pos rfl]
    cases o <;> rfl
  · rw [if_neg e, if_neg e]
/-- the fuel behind a step -/
def dec (F : Int) : Int := if 0 < F then F - 1 else F
theorem steps {n : Int} {o : Option File} {F : Int} (hF : F ≠ 0) : (one n o F false).steps = true := by
  unfold DM.steps one
  simp [hF]
theorem stepped {n : Int} {o : Option File} {F : Int} (hF : F ≠ 0) : (one n o F false).stepped = one n o (dec F) false := by
  unfold DM.stepped one dec
  simp only [Bool.false_eq_true, if_false, if_neg hF]
  split <;> rfl
theorem steps0 {n : Int} {o : Option File} : (one n o 0 false).steps = false := by unfold DM.steps one; simp
theorem stepped0 {n : Int} {o : Option File} : (one n o 0 false).stepped = one n o 0 true := by unfold DM.stepped one; simp
theorem with_files {n : Int} {o : Option File} {F : Int} {b : Bool} (f : File) : { one n o F b with files := (one n o F b).files.put n f } = one n (some f) F b := by rw [put]; rfl
theorem with_files' {n : Int} {o : Option File} {F G : Int} {b c : Bool} (f : File) : { one n o F b with files := (one n o G c).files.put n f } = one n (some f) F b := by rw [put]; rfl

section
variable {n : Int} (h0 : 0 ≤ n) (h1 : n < 16)
include h0 h1
theorem append_go {A B s : ByteArray} {F : Int} (hF : F ≠ 0) (hr : A.size + B.size + s.size ≤ 1048576) :
    (one n (some (A, B)) F false).appendE n s = 0 ∧ (one n (some (A, B)) F false).append n s = one n (some (A, B ++ s)) (dec F) false := by
  have hu := used h0 h1 (some (A, B)) F false
  have hn : ¬ (n < 0 ∨ 16 ≤ n) := by omega
  have ho : (one n (some (A, B)) F false).off = false := rfl
  have hroom : ¬ ((one n (some (A, B)) F false).room < (((one n (some (A, B)) F false).used : Int) + s.size)) := by
    rw [hu]
    show ¬ ((1048576 : Int) < ((A.size + B.size : Nat) : Int) + s.size)
    omega
  constructor
  · unfold DM.appendE
    rw [if_neg hn, ho, if_neg (by decide), if_neg hroom, steps hF, if_neg (by decide)]
  · unfold DM.append
    rw [if_neg hn, ho, if_neg (by decide), if_neg hroom, steps hF, if_neg (by decide), stepped hF, files, with_files']
    rfl
theorem append_dry {A B s : ByteArray} (hr : A.size + B.size + s.size ≤ 1048576) :
    (one n (some (A, B)) 0 false).appendE n s = 10 ∧ (one n (some (A, B)) 0 false).append n s = one n (some (A, B)) 0 true := by
  have hu := used h0 h1 (some (A, B)) 0 false
  have hn : ¬ (n < 0 ∨ 16 ≤ n) := by omega
  have ho : (one n (some (A, B)) 0 false).off = false := rfl
  have hroom : ¬ ((one n (some (A, B)) 0 false).room < (((one n (some (A, B)) 0 false).used : Int) + s.size)) := by
    rw [hu]
    show ¬ ((1048576 : Int) < ((A.size + B.size : Nat) : Int) + s.size)
    omega
  constructor
  · unfold DM.appendE
    rw [if_neg hn, ho, if_neg (by decide), if_neg hroom, steps0, if_pos rfl]
  · unfold DM.append
    rw [if_neg hn, ho, if_neg (by decide), if_neg hroom, steps0, if_pos rfl, stepped0]
omit h0 h1 in
theorem sync_go {A B : ByteArray} {F : Int} (hF : F ≠ 0) :
    (one n (some (A, B)) F false).syncE n = 0 ∧ (one n (some (A, B)) F false).sync n = one n (some (A ++ B, ByteArray.empty)) (dec F) false := by
  have ho : (one n (some (A, B)) F false).off = false := rfl
  constructor
  · unfold DM.syncE
    rw [ho, if_neg (by decide), files, if_neg (by simp), steps hF, if_neg (by decide)]
  · unfold DM.sync
    rw [ho, if_neg (by decide), files, if_neg (by simp), steps hF, if_neg (by decide), stepped hF, with_files']
    rfl
omit h0 h1 in
theorem sync_dry {A B : ByteArray} :
    (one n (some (A, B)) 0 false).syncE n = 10 ∧ (one n (some (A, B)) 0 false).sync n = one n (some (A, B)) 0 true := by
  have ho : (one n (some (A, B)) 0 false).off = false := rfl
  constructor
  · unfold DM.syncE
    rw [ho, if_neg (by decide), files, if_neg (by simp), steps0, if_pos rfl]
  · unfold DM.sync
    rw [ho, if_neg (by decide), files, if_neg (by simp), steps0, if_pos rfl, stepped0]
theorem replace_go {o : Option File} {s : ByteArray} {F : Int} (hF : F ≠ 0) (hr : s.size ≤ 1048576) :
    (one n o F false).replaceE n s = 0 ∧ (one n o F false).replace n s = one n (some (s, ByteArray.empty)) (dec F) false := by
  have hu := used h0 h1 o F false
  have hn : ¬ (n < 0 ∨ 16 ≤ n) := by omega
  have ho : (one n o F false).off = false := rfl
  have hroom : ¬ ((one n o F false).room + (fsz ((one n o F false).files n) : Int) < (((one n o F false).used : Int) + s.size)) := by
    rw [hu, files]
    show ¬ ((1048576 : Int) + _ < _)
    omega
  constructor
  · unfold DM.replaceE
    rw [if_neg hn, ho, if_neg (by decide), if_neg hroom, steps hF, if_neg (by decide)]
  · unfold DM.replace
    rw [if_neg hn, ho, if_neg (by decide), if_neg hroom, steps hF, if_neg (by decide), stepped hF, with_files']
theorem replace_dry {o : Option File} {s : ByteArray} (hr : s.size ≤ 1048576) :
    (one n o 0 false).replaceE n s = 10 ∧ (one n o 0 false).replace n s = one n o 0 true := by
  have hu := used h0 h1 o 0 false
  have hn : ¬ (n < 0 ∨ 16 ≤ n) := by omega
  have ho : (one n o 0 false).off = false := rfl
  have hroom : ¬ ((one n o 0 false).room + (fsz ((one n o 0 false).files n) : Int) < (((one n o 0 false).used : Int) + s.size)) := by
    rw [hu, files]
    show ¬ ((1048576 : Int) + _ < _)
    omega
  constructor
  · unfold DM.replaceE
    rw [if_neg hn, ho, if_neg (by decide), if_neg hroom, steps0, if_pos rfl]
  · unfold DM.replace
    rw [if_neg hn, ho, if_neg (by decide), if_neg hroom, steps0, if_pos rfl, stepped0]
omit h0 h1 in
theorem read_some {A B : ByteArray} {F : Int} : (one n (some (A, B)) F false).readE n = 0 ∧ (one n (some (A, B)) F false).read n = A ++ B := by
  have ho : (one n (some (A, B)) F false).off = false := rfl
  constructor
  · unfold DM.readE
    rw [ho, if_neg (by decide), files, if_neg (by simp)]
  · unfold DM.read
    rw [ho, if_neg (by decide), files, if_neg (by simp)]
    rfl
omit h0 h1 in
theorem read_no {F : Int} : (one n none F false).readE n = 12 ∧ (one n none F false).read n = ByteArray.empty := by
  have ho : (one n none F false).off = false := rfl
  constructor
  · unfold DM.readE
    rw [ho, if_neg (by decide), files]
    rfl
  · unfold DM.read
    rw [ho, if_neg (by decide), files]
    rfl

/-! ### the log -/
theorem open_some {A B : ByteArray} (hr : A.size + B.size ≤ 1048576) :
    Wal.openE (one n (some (A, B)) (-1) false) n = 0 ∧ Wal.openM (one n (some (A, B)) (-1) false) n = one n (some ((A ++ B).extract 0 (Wal.whole (A ++ B)), ByteArray.empty)) (-1) false ∧ Wal.openL (one n (some (A, B)) (-1) false) n = Wal.recs (A ++ B) := by
  have hn : ¬ (n < 0 ∨ 16 ≤ n) := by omega
  obtain ⟨r1, r2⟩ := read_some (n := n) (A := A) (B := B) (F := -1)
  have hE0 : Wal.o0E (one n (some (A, B)) (-1) false) n = 0 := by unfold Wal.o0E; rw [r1, if_neg (by decide)]
  have hM0 : Wal.o0 (one n (some (A, B)) (-1) false) n = one n (some (A, B)) (-1) false := by unfold Wal.o0; rw [r1, if_neg (by decide)]
  have hwl := Wal.whole_le (A ++ B)
  have hsz : (A ++ B).size = A.size + B.size := ByteArray.size_append
  have hd : dec (-1) = -1 := rfl
  refine ⟨?_, ?_, ?_⟩
  · unfold Wal.openE
    rw [if_neg hn, hE0, if_pos rfl, hM0, r2]
    unfold Wal.o1E
    split
    · exact (replace_go h0 h1 (by decide) (by simp; omega)).1
    · exact (sync_go (by decide)).1
  · unfold Wal.openM
    rw [if_neg hn, hE0, if_pos rfl, hM0, r2]
    unfold Wal.o1
    split
    · rw [(replace_go h0 h1 (by decide) (by simp; omega)).2, hd]
    · rw [(sync_go (by decide)).2, hd]
      have e : Wal.whole (A ++ B) = (A ++ B).size := by omega
      rw [e, ByteArray.extract_zero_size]
  · unfold Wal.openL
    rw [r2]
theorem open_none :
    Wal.openE (one n none (-1) false) n = 0 ∧ Wal.openM (one n none (-1) false) n = one n (some (ByteArray.empty, ByteArray.empty)) (-1) false ∧ Wal.openL (one n none (-1) false) n = [] := by
  have hn : ¬ (n < 0 ∨ 16 ≤ n) := by omega
  obtain ⟨r1, r2⟩ := read_no (n := n) (F := -1)
  obtain ⟨p1, p2⟩ := replace_go h0 h1 (o := none) (s := ByteArray.empty) (F := -1) (by decide) (by decide)
  have hd : dec (-1) = -1 := rfl
  have hE0 : Wal.o0E (one n none (-1) false) n = 0 := by unfold Wal.o0E; rw [r1, if_pos rfl, p1]
  have hM0 : Wal.o0 (one n none (-1) false) n = one n (some (ByteArray.empty, ByteArray.empty)) (-1) false := by unfold Wal.o0; rw [r1, if_pos rfl, p2, hd]
  have hw : ¬ (Wal.whole ByteArray.empty < ByteArray.empty.size) := by have : ByteArray.empty.size = 0 := rfl; omega
  refine ⟨?_, ?_, ?_⟩
  · unfold Wal.openE
    rw [if_neg hn, hE0, if_pos rfl, hM0, r2]
    unfold Wal.o1E
    rw [if_neg hw]
    exact (sync_go (by decide)).1
  · unfold Wal.openM
    rw [if_neg hn, hE0, if_pos rfl, hM0, r2]
    unfold Wal.o1
    rw [if_neg hw, (sync_go (by decide)).2, hd]
    rfl
  · unfold Wal.openL
    rw [r2]
    rfl
theorem app_go {A B : ByteArray} {l : List ByteArray} {F : Int} (hl : Wal.long l = false) (hF0 : F ≠ 0) (hF1 : F ≠ 1) (hr : A.size + B.size + (Wal.text l).size ≤ 1048576) :
    Wal.appE (one n (some (A, B)) F false) n l = 0 ∧ Wal.app (one n (some (A, B)) F false) n l = one n (some (A ++ (B ++ Wal.text l), ByteArray.empty)) (dec (dec F)) false := by
  obtain ⟨a1, a2⟩ := append_go h0 h1 (A := A) (B := B) (s := Wal.text l) hF0 hr
  have hd : dec F ≠ 0 := by unfold dec; split <;> omega
  obtain ⟨s1, s2⟩ := sync_go (n := n) (A := A) (B := B ++ Wal.text l) hd
  constructor
  · unfold Wal.appE
    rw [hl, if_neg (by decide), a1, if_pos rfl, a2, s1]
  · unfold Wal.app
    rw [hl, if_neg (by decide), a1, if_pos rfl, a2, s2]
theorem app_half {A B : ByteArray} {l : List ByteArray} (hl : Wal.long l = false) (hr : A.size + B.size + (Wal.text l).size ≤ 1048576) :
    Wal.appE (one n (some (A, B)) 1 false) n l = 10 ∧ Wal.app (one n (some (A, B)) 1 false) n l = one n (some (A, B ++ Wal.text l)) 0 true := by
  obtain ⟨a1, a2⟩ := append_go h0 h1 (A := A) (B := B) (s := Wal.text l) (F := 1) (by decide) hr
  have hd : dec 1 = 0 := rfl
  rw [hd] at a2
  obtain ⟨s1, s2⟩ := sync_dry (n := n) (A := A) (B := B ++ Wal.text l)
  constructor
  · unfold Wal.appE
    rw [hl, if_neg (by decide), a1, if_pos rfl, a2, s1]
  · unfold Wal.app
    rw [hl, if_neg (by decide), a1, if_pos rfl, a2, s2]
theorem app_dry {A B : ByteArray} {l : List ByteArray} (hl : Wal.long l = false) (hr : A.size + B.size + (Wal.text l).size ≤ 1048576) :
    Wal.appE (one n (some (A, B)) 0 false) n l = 10 ∧ Wal.app (one n (some (A, B)) 0 false) n l = one n (some (A, B)) 0 true := by
  obtain ⟨a1, a2⟩ := append_dry h0 h1 (A := A) (B := B) (s := Wal.text l) hr
  constructor
  · unfold Wal.appE
    rw [hl, if_neg (by decide), a1, if_neg (by decide)]
  · unfold Wal.app
    rw [hl, if_neg (by decide), a1, if_neg (by decide), a2]
theorem anew_go {o : Option File} {l : List ByteArray} {F : Int} (hl : Wal.long l = false) (hF : F ≠ 0) (hr : (Wal.text l).size ≤ 1048576) :
    Wal.anewE (one n o F false) n l = 0 ∧ Wal.anew (one n o F false) n l = one n (some (Wal.text l, ByteArray.empty)) (dec F) false := by
  obtain ⟨a1, a2⟩ := replace_go h0 h1 (o := o) (s := Wal.text l) hF hr
  constructor
  · unfold Wal.anewE
    rw [hl, if_neg (by decide), a1]
  · unfold Wal.anew
    rw [hl, if_neg (by decide), a2]
theorem anew_dry {o : Option File} {l : List ByteArray} (hl : Wal.long l = false) (hr : (Wal.text l).size ≤ 1048576) :
    Wal.anewE (one n o 0 false) n l = 10 ∧ Wal.anew (one n o 0 false) n l = one n o 0 true := by
  obtain ⟨a1, a2⟩ := replace_dry h0 h1 (o := o) (s := Wal.text l) hr
  constructor
  · unfold Wal.anewE
    rw [hl, if_neg (by decide), a1]
  · unfold Wal.anew
    rw [hl, if_neg (by decide), a2]
end
end One
end Go.Proofs.Ytfmpmdkedpollaa
