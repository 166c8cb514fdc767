/- The disk as plain data: its files by number, its room, its fuel, whether it is off; what each call answers and leaves. And a range over the map of its files. -/
import Derived.Test.YtekmjhenhgmpgaaFiles
namespace Go.Proofs.Ytekmjhenhgmpgaa
open Go.RowKit Go.Maps

def fsz : Option File → Nat
  | none => 0
  | some f => f.1.size + f.2.size
def tot (F : Fs) : Nat → Nat
  | 0 => 0
  | n + 1 => tot F n + fsz (F n)
def Fs.only (F : Fs) (L : Int → Bool) : Fs := fun x => if L x = true then F x else none

theorem tot_same {F G : Fs} : ∀ {n : Nat}, (∀ i : Nat, i < n → F i = G i) → tot F n = tot G n
  | 0, _ => rfl
  | n + 1, h => by unfold tot; rw [tot_same (fun i hi => h i (by omega)), h n (by omega)]
theorem tot_upd {F G : Fs} {x : Nat} : ∀ {n : Nat}, x < n → (∀ i : Nat, i ≠ x → F i = G i) → tot G n + fsz (F x) = tot F n + fsz (G x)
  | 0, h, _ => by omega
  | n + 1, h, he => by
    unfold tot
    by_cases e : x = n
    · subst e
      rw [tot_same (F := G) (G := F) (n := x) (fun i hi => (he i (by omega)).symm)]
      omega
    · have := tot_upd (n := n) (F := F) (G := G) (x := x) (by omega) he
      rw [he n (fun e' => e e'.symm)]
      omega
theorem tot_none : ∀ n, tot (fun _ => none) n = 0
  | 0 => rfl
  | n + 1 => by unfold tot; rw [tot_none n]; rfl
theorem tot_ge {F : Fs} {x : Nat} : ∀ {n : Nat}, x < n → fsz (F x) ≤ tot F n
  | 0, h => by omega
  | n + 1, h => by
    unfold tot
    by_cases e : x = n
    · subst e; omega
    · have := tot_ge (F := F) (x := x) (n := n) (by omega); omega
theorem fsz_le {F : Fs} {x : Int} {f : File} (h0 : 0 ≤ x) (h1 : x < 16) (hf : F x = some f) : f.1.size + f.2.size ≤ tot F 16 := by
  obtain ⟨n, rfl⟩ := Int.eq_ofNat_of_zero_le h0
  have := tot_ge (F := F) (x := n) (n := 16) (by omega)
  rw [hf] at this
  exact this
theorem tot_put {F : Fs} {n : Int} (h0 : 0 ≤ n) (h1 : n < 16) (f : File) : tot (F.put n f) 16 + fsz (F n) = tot F 16 + (f.1.size + f.2.size) := by
  obtain ⟨m, rfl⟩ := Int.eq_ofNat_of_zero_le h0
  have := tot_upd (F := F) (G := F.put m f) (x := m) (n := 16) (by omega) (fun i hi => by unfold Fs.put; rw [if_neg (by omega)])
  rw [show F.put (m : Int) f (m : Int) = some f from by unfold Fs.put; simp] at this
  exact this
theorem tot_del {F : Fs} {n : Int} (h0 : 0 ≤ n) (h1 : n < 16) : tot (F.del n) 16 + fsz (F n) = tot F 16 := by
  obtain ⟨m, rfl⟩ := Int.eq_ofNat_of_zero_le h0
  have := tot_upd (F := F) (G := F.del m) (x := m) (n := 16) (by omega) (fun i hi => by unfold Fs.del; rw [if_neg (by omega)])
  rw [show F.del (m : Int) (m : Int) = none from by unfold Fs.del; simp] at this
  simpa [fsz] using this

def strike (L : Int → Bool) (x : Int) : Int → Bool := fun y => L y && !decide (y = x)
theorem tot_strike {F : Fs} {L : Int → Bool} {x : Int} {f : File} (h0 : 0 ≤ x) (h1 : x < 16) (hf : F x = some f) (hl : L x = true) : tot (F.only (strike L x)) 16 + (f.1.size + f.2.size) = tot (F.only L) 16 := by
  obtain ⟨m, rfl⟩ := Int.eq_ofNat_of_zero_le h0
  have := tot_upd (F := F.only L) (G := F.only (strike L m)) (x := m) (n := 16) (by omega) (fun i hi => by
    unfold Fs.only strike
    rw [show decide ((i : Int) = (m : Int)) = false from by simp; omega]
    simp)
  rw [show F.only (strike L (m : Int)) (m : Int) = none from by unfold Fs.only strike; simp, show F.only L (m : Int) = some f from by unfold Fs.only; rw [if_pos hl, hf]] at this
  simpa [fsz] using this

/-- a range over the map is under way: L says which files are still to come -/
def Going (P : Program) (k : TypeId) (w : World) (b r : Nat) (F : Fs) (L : Int → Bool) (cnt : Nat) : Prop :=
  ∃ D left, w.ranges P k fileR b r 16 D left cnt ∧ Reads D F ∧ (∀ x : Int, left (.int .i64 x) = L x)

section
variable {P : Program} {k t e : TypeId} {w : World} {b r cnt : Nat} {F : Fs} {L : Int → Bool}
theorem Going.files (h : Going P k w b r F L cnt) : FilesAt P k w b F := by obtain ⟨D, left, h, hr, _⟩ := h; exact ⟨D, h.owns, hr⟩
theorem Going.left_eq (h : Going P k w b r F L cnt) : w.rangeLeft b r = cnt := by obtain ⟨D, left, h, hr, _⟩ := h; exact h.left_eq
theorem Going.lt (h : Going P k w b r F L cnt) : r < w.heap.size := by obtain ⟨D, left, h, hr, _⟩ := h; exact h.lt
theorem Going.keeps {S : Nat → Prop} {w' : World} (h : Going P k w b r F L cnt) (ho : Only S w w') (hb : ¬ S b) (hr : ¬ S r) : Going P k w' b r F L cnt := by
  obtain ⟨D, left, ⟨es, clock, since, seen, c0, h1, h2, h3, h4, h5, h6⟩, q⟩ := h
  exact ⟨D, left, ⟨es, clock, since, seen, c0, ho.keeps hb h1, h2, h3, h4, ho.keeps hr h5, h6⟩, q⟩

variable {ops : Array Oper} {rest : List Oper} {o : Oper} {a : Act} {Q : Exit → Act → World → Prop}
/-- 'range files' -/
theorem wpList_range_files (hg : o.guard = none) (m : Operand) (t : TypeId) (hop : o.op = Op.range t m) (K : Keyed P k) (ht : P.underlying t = some (.map k e)) (hm : a.eval m = .map (some b)) (h : FilesAt P k w b F)
    (hK : ∀ w' cnt, Going P k w' b w.heap.size F (fun x => (F x).isSome) cnt → Only NoBlock w w' → w'.heap.size = w.heap.size + 1 → wpList P ops Q rest (a.put o.dst (.pointer (some ⟨w.heap.size, 0, none⟩))) w') :
    wpList P ops Q (o :: rest) a w := by
  obtain ⟨D, hown, hr⟩ := h
  refine wpList_range_own w hg m t hop k e K ht fileR b 16 D hm hown fun w' h1 h2 h3 => ?_
  exact hK w' _ ⟨D, _, h1, hr, fun x => hr.has x⟩ ((Only.of_grown h2).mono (fun i hi => by cases hi)) h3
/-- its step -/
theorem wpList_next_files (hg : o.guard = none) (it : Operand) (hop : o.op = Op.next it false) (K : Keyed P k) (hk : P.underlying k = some (.int .i64)) (hit : a.eval it = .pointer (some ⟨r, 0, none⟩)) (h : Going P k w b r F L cnt)
    (hDone : (∀ x, L x = false) → wpList P ops Q rest (a.put o.dst (.tuple #[.bool false])) w)
    (hMore : ∀ (x : Int) (fa fb : ByteArray) (w' : World) (cnt' : Nat), F x = some (fa, fb) → L x = true → 0 ≤ x → x < 16 → Going P k w' b r F (strike L x) cnt' → cnt' < cnt →
      Only (fun i => i = r) w w' → w'.heap.size = w.heap.size → (Instr.entry (.pointer (some ⟨r, 0, none⟩))).run P w' = .ok (.tuple #[.int .i64 x, .agg #[.string fa, .string fb]]) w' → wpList P ops Q rest (a.put o.dst (.tuple #[.bool true, .int .i64 x, .agg #[.string fa, .string fb]])) w') :
    wpList P ops Q (o :: rest) a w := by
  obtain ⟨D, left, hrg, hr, hl⟩ := h
  refine wpList_next_ranges w hg it hop k K fileR (Value.int .i64) fileV (fun key kl hkey => by obtain ⟨x, rfl, _⟩ := Maps.keyOf_int_inv hk hkey; exact ⟨x, rfl⟩) (fun v y hv => by obtain ⟨c, rfl, _⟩ := fileR_inv hv; exact ⟨c, rfl⟩) b r 16 D left cnt hit hrg (fun _ h0 => hDone (fun x => (hl x) ▸ h0 _)) ?_
  intro x f kl y w' cnt' hkey hlk hf hat hrg' hlt hgr hsz hen
  obtain ⟨x', ex, rfl, hwx⟩ := Maps.keyOf_int_inv hk hkey
  cases ex
  rw [fileR_mk] at hf
  cases hf
  obtain ⟨fa, fb⟩ := f
  have hhas : Maps.has D (.int .i64 x) = true := has_true_of_atKey hat
  obtain ⟨x2, e2, h0, h1⟩ := hr.keys _ hhas
  cases e2
  have hFx : F x = some (fa, fb) := by
    rw [hr.has x] at hhas
    cases hF : F x with
    | none => rw [hF] at hhas; cases hhas
    | some g =>
      have h1 := hr.val x g hF .nil
      rw [hat] at h1
      rw [fileD_inj h1]
  refine hMore x fa fb w' cnt' hFx (hl x ▸ hlk) h0 h1 ⟨D, _, hrg', hr, fun y => ?_⟩ hlt ((Only.of_grown hgr).mono (fun i hi => by cases hi; rfl)) hsz hen
  unfold strike
  rw [hl y]
  congr 1
  by_cases e : y = x
  · subst e; rw [WideAt.sameKey_self (a := .int .i64 y) trivial]; simp
  · rw [sameKey_ne (fun e' => e (by cases e'; rfl))]; simp [e]
end

/-! ### the disk -/
structure DM where
  files : Fs
  room : Int
  fuel : Int
  off : Bool

def DM.used (M : DM) : Nat := tot M.files 16
structure DM.Ok (M : DM) : Prop where
  room0 : 0 ≤ M.room
  room1 : M.room ≤ 1048576
  used : (M.used : Int) ≤ M.room
  fuel0 : -1 ≤ M.fuel
  fuel1 : M.fuel ≤ 9223372036854775807
  keys : ∀ x f, M.files x = some f → 0 ≤ x ∧ x < 16

theorem getD_fsz {o : Option File} {fa fb : ByteArray} (h : o.getD noFile = (fa, fb)) : fsz o = fa.size + fb.size := by
  cases o with
  | none => cases h; rfl
  | some f => cases h; rfl
theorem fsz_all {F : Fs} {n : Int} (h0 : 0 ≤ n) (h1 : n < 16) : fsz (F n) ≤ tot F 16 := by
  obtain ⟨m, rfl⟩ := Int.eq_ofNat_of_zero_le h0
  exact tot_ge (by omega)
theorem DM.Ok.small {M : DM} (_h : M.Ok) {n : Int} {fa fb : ByteArray} (h0 : 0 ≤ n) (h1 : n < 16) (hf : (M.files n).getD noFile = (fa, fb)) : ((fa.size + fb.size : Nat) : Int) ≤ M.used := by
  have := fsz_all (F := M.files) h0 h1
  rw [getD_fsz hf] at this
  unfold DM.used
  omega

def DM.new (room : Int) : DM := ⟨fun _ => none, room, -1, false⟩
def DM.setFuel (M : DM) (n : Int) : DM := { M with fuel := if n < -1 then -1 else n }
/-- is there fuel for a step? what is left -/
def DM.steps (M : DM) : Bool := !M.off && !(M.fuel == 0)
def DM.stepped (M : DM) : DM :=
  if M.off = true then M else if M.fuel = 0 then { M with off := true } else if 0 < M.fuel then { M with fuel := M.fuel - 1 } else M
def DM.appendE (M : DM) (n : Int) (s : ByteArray) : Int :=
  if n < 0 ∨ 16 ≤ n then 1 else if M.off = true then 10 else if M.room < M.used + s.size then 11 else if M.steps = false then 10 else 0
def DM.append (M : DM) (n : Int) (s : ByteArray) : DM :=
  if n < 0 ∨ 16 ≤ n then M else if M.off = true then M else if M.room < M.used + s.size then M else if M.steps = false then M.stepped
  else { M.stepped with files := M.files.put n (((M.files n).getD noFile).1, ((M.files n).getD noFile).2 ++ s) }
def DM.syncE (M : DM) (n : Int) : Int :=
  if M.off = true then 10 else if (M.files n).isSome = false then 12 else if M.steps = false then 10 else 0
def DM.sync (M : DM) (n : Int) : DM :=
  if M.off = true then M else if (M.files n).isSome = false then M else if M.steps = false then M.stepped
  else { M.stepped with files := M.files.put n (((M.files n).getD noFile).1 ++ ((M.files n).getD noFile).2, ByteArray.empty) }
def DM.replaceE (M : DM) (n : Int) (s : ByteArray) : Int :=
  if n < 0 ∨ 16 ≤ n then 1 else if M.off = true then 10 else if M.room + fsz (M.files n) < M.used + s.size then 11 else if M.steps = false then 10 else 0
def DM.replace (M : DM) (n : Int) (s : ByteArray) : DM :=
  if n < 0 ∨ 16 ≤ n then M else if M.off = true then M else if M.room + fsz (M.files n) < M.used + s.size then M else if M.steps = false then M.stepped
  else { M.stepped with files := M.files.put n (s, ByteArray.empty) }
def DM.removeE (M : DM) (n : Int) : Int :=
  if M.off = true then 10 else if (M.files n).isSome = false then 12 else if M.steps = false then 10 else 0
def DM.remove (M : DM) (n : Int) : DM :=
  if M.off = true then M else if (M.files n).isSome = false then M else if M.steps = false then M.stepped
  else { M.stepped with files := M.files.del n }
def DM.readE (M : DM) (n : Int) : Int := if M.off = true then 10 else if (M.files n).isSome = false then 12 else 0
def DM.read (M : DM) (n : Int) : ByteArray :=
  if M.off = true then ByteArray.empty else if (M.files n).isSome = false then ByteArray.empty else ((M.files n).getD noFile).1 ++ ((M.files n).getD noFile).2
/-- what is left of a file, of which k soft bytes are kept at most -/
def leftFile (f : File) (k : Int) : Option File :=
  let j := (max 0 (min k f.2.size)).toNat
  if f.1.size = 0 ∧ j = 0 ∧ f.2.size ≠ 0 then none else some (f.1 ++ f.2.extract 0 j, ByteArray.empty)
def DM.crash (M : DM) (keep : Int → Int) : DM :=
  { files := fun x => match M.files x with | none => none | some f => leftFile f (keep x), room := M.room, fuel := -1, off := false }

end Go.Proofs.Ytekmjhenhgmpgaa
