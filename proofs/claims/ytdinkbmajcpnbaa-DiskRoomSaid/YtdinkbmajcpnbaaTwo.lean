/- A disk of two files, in plain data: what its calls answer and make of it, where there is room and where there is none. -/
import Derived.Test.YtdinkbmajcpnbaaDm
namespace Go.Proofs.Ytdinkbmajcpnbaa
open Go.RowKit

/-- a disk that goes on, with the files 3 and 4 and no other -/
def two (room : Int) (a b : Option File) : DM := ⟨fun x => if x = 3 then a else if x = 4 then b else none, room, -1, false⟩

namespace Two
variable {R : Int} {a b : Option File} {s : ByteArray}
theorem new : DM.new R = two R none none := by
  unfold DM.new two
  congr 1
  funext x
  split
  · rfl
  · split <;> rfl
theorem file3 : (two R a b).files 3 = a := rfl
theorem file4 : (two R a b).files 4 = b := rfl
theorem used : (two R a b).used = fsz a + fsz b := by
  have e : ∀ x : Nat, x ≠ 3 → x ≠ 4 → (two R a b).files (x : Int) = none := by
    intro x h3 h4
    unfold two
    simp only
    rw [if_neg (by omega), if_neg (by omega)]
  have e3 : (two R a b).files ((3 : Nat) : Int) = a := rfl
  have e4 : (two R a b).files ((4 : Nat) : Int) = b := rfl
  unfold DM.used
  simp only [tot]
  rw [e 0 (by decide) (by decide), e 1 (by decide) (by decide), e 2 (by decide) (by decide), e3, e4, e 5 (by decide) (by decide), e 6 (by decide) (by decide), e 7 (by decide) (by decide), e 8 (by decide) (by decide), e 9 (by decide) (by decide), e 10 (by decide) (by decide), e 11 (by decide) (by decide), e 12 (by decide) (by decide), e 13 (by decide) (by decide), e 14 (by decide) (by decide), e 15 (by decide) (by decide)]
  simp [fsz]
theorem steps : (two R a b).steps = true := by simp [DM.steps, two]
theorem stepped : (two R a b).stepped = two R a b := by simp [DM.stepped, two]
theorem off : (two R a b).off = false := rfl
theorem put3 (f : File) : { two R a b with files := (two R a b).files.put 3 f } = two R (some f) b := by
  have h : (two R a b).files.put 3 f = (two R (some f) b).files := by
    funext x
    unfold two Fs.put
    simp only
    by_cases h : x = 3
    · rw [if_pos h, if_pos h]
    · rw [if_neg h, if_neg h, if_neg h]
  rw [h]
  rfl
theorem put4 (f : File) : { two R a b with files := (two R a b).files.put 4 f } = two R a (some f) := by
  have h : (two R a b).files.put 4 f = (two R a (some f)).files := by
    funext x
    unfold two Fs.put
    simp only
    by_cases h : x = 4
    · subst h; rfl
    · rw [if_neg h, if_neg h, if_neg h]
  rw [h]
  rfl
theorem del4 : { two R a b with files := (two R a b).files.del 4 } = two R a none := by
  have h : (two R a b).files.del 4 = (two R a none).files := by
    funext x
    unfold two Fs.del
    simp only
    by_cases h : x = 4
    · subst h; rfl
    · rw [if_neg h, if_neg h, if_neg h]
  rw [h]
  rfl
theorem append3 (h : (fsz a + fsz b + s.size : Nat) ≤ R) : (two R a b).appendE 3 s = 0 ∧ (two R a b).append 3 s = two R (some ((a.getD noFile).1, (a.getD noFile).2 ++ s)) b := by
  have hr : ¬ (two R a b).room < ((two R a b).used : Int) + s.size := by
    rw [used]
    show ¬ R < _
    omega
  constructor
  · unfold DM.appendE
    rw [if_neg (by decide), off, if_neg (by decide), if_neg hr, steps, if_neg (by decide)]
  · unfold DM.append
    rw [if_neg (by decide), off, if_neg (by decide), if_neg hr, steps, if_neg (by decide), stepped, put3, file3]
theorem append4 (h : (fsz a + fsz b + s.size : Nat) ≤ R) : (two R a b).appendE 4 s = 0 ∧ (two R a b).append 4 s = two R a (some ((b.getD noFile).1, (b.getD noFile).2 ++ s)) := by
  have hr : ¬ (two R a b).room < ((two R a b).used : Int) + s.size := by
    rw [used]
    show ¬ R < _
    omega
  constructor
  · unfold DM.appendE
    rw [if_neg (by decide), off, if_neg (by decide), if_neg hr, steps, if_neg (by decide)]
  · unfold DM.append
    rw [if_neg (by decide), off, if_neg (by decide), if_neg hr, steps, if_neg (by decide), stepped, put4, file4]
theorem append_full {n : Int} (hn : n = 3 ∨ n = 4) (h : R < (fsz a + fsz b + s.size : Nat)) : (two R a b).appendE n s = 11 ∧ (two R a b).append n s = two R a b := by
  have hr : (two R a b).room < ((two R a b).used : Int) + s.size := by
    rw [used]
    show R < _
    omega
  constructor
  · unfold DM.appendE
    rw [if_neg (by omega), off, if_neg (by decide), if_pos hr]
  · unfold DM.append
    rw [if_neg (by omega), off, if_neg (by decide), if_pos hr]
theorem replace3 (h : (fsz b + s.size : Nat) ≤ R) : (two R a b).replaceE 3 s = 0 ∧ (two R a b).replace 3 s = two R (some (s, ByteArray.empty)) b := by
  have hr : ¬ (two R a b).room + (fsz ((two R a b).files 3) : Int) < ((two R a b).used : Int) + s.size := by
    rw [used, file3]
    show ¬ R + _ < _
    omega
  constructor
  · unfold DM.replaceE
    rw [if_neg (by decide), off, if_neg (by decide), if_neg hr, steps, if_neg (by decide)]
  · unfold DM.replace
    rw [if_neg (by decide), off, if_neg (by decide), if_neg hr, steps, if_neg (by decide), stepped, put3]
theorem replace3_full (h : R < (fsz b + s.size : Nat)) : (two R a b).replaceE 3 s = 11 ∧ (two R a b).replace 3 s = two R a b := by
  have hr : (two R a b).room + (fsz ((two R a b).files 3) : Int) < ((two R a b).used : Int) + s.size := by
    rw [used, file3]
    show R + _ < _
    omega
  constructor
  · unfold DM.replaceE
    rw [if_neg (by decide), off, if_neg (by decide), if_pos hr]
  · unfold DM.replace
    rw [if_neg (by decide), off, if_neg (by decide), if_pos hr]
theorem remove4 {f : File} : (two R a (some f)).removeE 4 = 0 ∧ (two R a (some f)).remove 4 = two R a none := by
  constructor
  · unfold DM.removeE
    rw [off, if_neg (by decide), file4, if_neg (by simp), steps, if_neg (by decide)]
  · unfold DM.remove
    rw [off, if_neg (by decide), file4, if_neg (by simp), steps, if_neg (by decide), stepped, del4]
end Two
end Go.Proofs.Ytdinkbmajcpnbaa
