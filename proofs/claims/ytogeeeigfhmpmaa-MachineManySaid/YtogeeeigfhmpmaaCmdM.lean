/- Commands as bytes, in plain lists: what is read is what would be written (layers 03, 13, 16). -/
import Derived.Test.YtogeeeigfhmpmaaPackM
namespace Go.Proofs.Ytogeeeigfhmpmaa.Pk

def Byt (l : List Int) : Prop := ∀ c ∈ l, 0 ≤ c ∧ c ≤ 255
theorem be_val_rev : ∀ (l : List Int), Byt l → be l.length (val l.reverse) = l.reverse
  | [], _ => rfl
  | c :: t, h => by
    have hc := h c (by simp)
    have ht : Byt t := fun x hx => h x (by simp [hx])
    rw [List.reverse_cons, val_snoc, List.length_cons]
    unfold be
    have e1 : (256 * val t.reverse + c.toNat) / 256 = val t.reverse := by omega
    have e2 : (256 * val t.reverse + c.toNat) % 256 = c.toNat := by omega
    rw [e1, e2, be_val_rev t ht]
    congr 2
    omega
theorem be_val {l : List Int} (h : Byt l) : be l.length (val l) = l := by
  have := be_val_rev l.reverse (fun x hx => h x (by simpa using hx))
  rwa [List.reverse_reverse, List.length_reverse] at this
theorem foldl_ge : ∀ (l : List Int) (a : Nat), a * 256 ^ l.length ≤ l.foldl (fun x c => 256 * x + c.toNat) a
  | [], a => by simp
  | c :: t, a => by
    rw [List.foldl_cons, List.length_cons, Nat.pow_succ]
    have h1 := foldl_ge t (256 * a + c.toNat)
    have h2 : (256 * a) * 256 ^ t.length ≤ (256 * a + c.toNat) * 256 ^ t.length := Nat.mul_le_mul_right _ (by omega)
    have h3 : (256 * a) * 256 ^ t.length = a * (256 ^ t.length * 256) := by rw [Nat.mul_comm 256 a, Nat.mul_assoc, Nat.mul_comm 256]
    omega
theorem size_val {l : List Int} (h : Byt l) (h0 : l = [] ∨ l.getD 0 0 ≠ 0) : size (val l) = l.length := by
  have hle : size (val l) ≤ l.length := size_lt _ (val_lt l h)
  cases l with
  | nil => simp [val_nil, size_zero]
  | cons c t =>
    have hc := h c (by simp)
    have hc0 : c ≠ 0 := by
      rcases h0 with h0 | h0
      · cases h0
      · rwa [List.getD_cons_zero] at h0
    have h1 := foldl_ge t c.toNat
    have hv : val (c :: t) = t.foldl (fun x c => 256 * x + c.toNat) c.toNat := by
      unfold val
      rw [List.foldl_cons]
      simp
    have h2 : 256 ^ t.length ≤ c.toNat * 256 ^ t.length := Nat.le_mul_of_pos_left _ (by omega)
    have h3 := lt_size (val (c :: t))
    rcases Nat.lt_or_ge (size (val (c :: t))) (t.length + 1) with h4 | h4
    · have h5 : 256 ^ size (val (c :: t)) ≤ 256 ^ t.length := Nat.pow_le_pow_right (by decide) (by omega)
      omega
    · rw [List.length_cons] at hle ⊢
      omega
theorem num_canon {s : List Int} (ho : okNum s = true) (hb : Byt s) : s = num (numV s) ++ s.drop ((s.getD 0 0).toNat + 1) := by
  have hl := okNum_len ho
  cases s with
  | nil => simp [okNum] at ho
  | cons n t =>
    rw [List.getD_cons_zero, List.length_cons] at hl
    have hn := hb n (by simp)
    have hbt : Byt (t.take n.toNat) := fun c hc => hb c (by simp [List.mem_of_mem_take hc])
    have hlen : (t.take n.toNat).length = n.toNat := by rw [List.length_take]; omega
    have hv : numV (n :: t) = val (t.take n.toNat) := by
      unfold numV
      rw [if_pos ho, List.drop_one, List.tail_cons, List.getD_cons_zero]
    have h0 : t.take n.toNat = [] ∨ (t.take n.toNat).getD 0 0 ≠ 0 := by
      by_cases hz : n.toNat = 0
      · left; rw [hz]; rfl
      · right
        unfold okNum at ho
        simp only [Bool.not_eq_true', Bool.or_eq_false_iff, Bool.and_eq_false_iff, decide_eq_false_iff_not] at ho
        have h2 := ho.2.resolve_left (by omega)
        rw [List.getD_eq_getElem?_getD, List.getElem?_take, if_pos (by omega), ← List.getD_eq_getElem?_getD]
        exact h2
    have hs := size_val hbt h0
    rw [hlen] at hs
    have hbe := be_val hbt
    rw [hlen] at hbe
    rw [hv]
    unfold num
    rw [hs, hbe, List.getD_cons_zero, List.drop_succ_cons, List.cons_append, List.take_append_drop]
    congr 1
    omega
theorem numR_bad {r : RD} (h : (numR r).bad = false) : okNum r.s = true ∧ r.bad = false := by
  unfold numR at h
  split at h
  · rename_i ho; exact ⟨ho, h⟩
  · cases h
theorem numR_byt {r : RD} (h : Byt r.s) : Byt (numR r).s := numR_byte h
theorem num_byt {r : RD} (h : Byt r.s) : Byt r.num.2.s := numR_byte h
theorem num_eq {r : RD} (hb : Byt r.s) (h : r.num.2.bad = false) : r.bad = false ∧ r.s = num r.num.1 ++ r.num.2.s := by
  obtain ⟨h1, h2⟩ := numR_bad h
  refine ⟨h2, ?_⟩
  unfold RD.num numR
  simp only [if_pos h1]
  exact num_canon h1 hb
theorem up_fst {r : RD} {m : Nat} : (r.up m).1 ≤ m := by
  unfold RD.up
  split
  · rename_i h; exact h
  · exact Nat.zero_le _
theorem up_bad {r : RD} {m : Nat} (h : (r.up m).2.bad = false) : numV r.s ≤ m ∧ (r.up m) = r.num := by
  unfold RD.up at h ⊢
  split at h
  · rename_i hm; exact ⟨hm, by rw [if_pos hm]; rfl⟩
  · cases h
theorem up_eq {r : RD} {m : Nat} (hb : Byt r.s) (h : (r.up m).2.bad = false) : r.bad = false ∧ r.s = num (r.up m).1 ++ (r.up m).2.s := by
  have h1 := (up_bad h).2
  rw [h1] at h ⊢
  exact num_eq hb h
theorem up_byt {r : RD} {m : Nat} (hb : Byt r.s) : Byt (r.up m).2.s := by
  unfold RD.up
  split
  · exact numR_byt hb
  · intro c hc; cases hc
theorem text_bad {r : RD} {m : Nat} (h : (r.text m).2.bad = false) : (r.up m).2.bad = false ∧ (r.up m).1 ≤ (r.up m).2.s.length ∧ (r.text m) = ((r.up m).2.s.take (r.up m).1, ⟨(r.up m).2.s.drop (r.up m).1, (r.up m).2.bad⟩) := by
  unfold RD.text at h ⊢
  simp only at h ⊢
  split at h
  · rename_i hm; exact ⟨h, hm, by rw [if_pos hm]⟩
  · cases h
theorem text_eq {r : RD} {m : Nat} (hb : Byt r.s) (h : (r.text m).2.bad = false) : r.bad = false ∧ r.s = text (r.text m).1 ++ (r.text m).2.s ∧ (r.text m).1.length ≤ m := by
  obtain ⟨h1, h2, h3⟩ := text_bad h
  obtain ⟨h4, h5⟩ := up_eq hb h1
  rw [h3]
  simp only
  have hl : ((r.up m).2.s.take (r.up m).1).length = (r.up m).1 := by rw [List.length_take]; omega
  refine ⟨h4, ?_, by rw [hl]; exact up_fst⟩
  unfold text
  rw [hl, List.append_assoc, List.take_append_drop]
  exact h5
theorem text_byt {r : RD} {m : Nat} (hb : Byt r.s) : Byt (r.text m).2.s := by
  unfold RD.text
  simp only
  split
  · exact fun c hc => up_byt hb c (List.mem_of_mem_drop hc)
  · intro c hc; cases hc
/-- a limit more or less plays no part where what is read is within both -/
theorem up_less {r : RD} {m k : Nat} (h : (r.up m).2.bad = false) (hk : (r.up m).1 ≤ k) : r.up k = r.up m := by
  obtain ⟨h1, h2⟩ := up_bad h
  rw [h2] at hk ⊢
  have hk' : numV r.s ≤ k := hk
  unfold RD.up
  rw [if_pos hk']
  rfl
theorem up_more {r : RD} {m k : Nat} (h : (r.up m).2.bad = false) (hk : m ≤ k) : r.up k = r.up m := by
  obtain ⟨h1, h2⟩ := up_bad h
  rw [h2]
  unfold RD.up
  rw [if_pos (by omega)]
  rfl
/-- what failed stays so -/
theorem num_stays {r : RD} (h : r.num.2.bad = false) : r.bad = false := (numR_bad h).2
theorem up_stays {r : RD} {m : Nat} (h : (r.up m).2.bad = false) : r.bad = false := by
  have h1 := (up_bad h).2
  rw [h1] at h
  exact num_stays h
theorem text_stays {r : RD} {m : Nat} (h : (r.text m).2.bad = false) : r.bad = false := up_stays (text_bad h).1

/-- a step -/
structure Stp where
  part : Nat
  name : List Int
  budget : Nat
def encS (t : Stp) : List Int := num t.part ++ text t.name ++ num t.budget
def encSs (l : List Stp) : List Int := num l.length ++ l.flatMap encS
def rdS (r : RD) : Stp × RD :=
  let a := r.up 3
  let b := a.2.text 16
  let c := b.2.up 9
  (⟨a.1, b.1, c.1⟩, c.2)
def rdSn : Nat → RD → List Stp × RD
  | 0, r => ([], r)
  | n + 1, r => let x := rdS r; let y := rdSn n x.2; (x.1 :: y.1, y.2)
/-- the steps that are read; what failed is none -/
def rdSs (r : RD) : List Stp × RD := let u := r.up 64; let y := rdSn u.1 u.2; (if y.2.bad = true then [] else y.1, y.2)
theorem rdS_eq {r : RD} (hb : Byt r.s) (h : (rdS r).2.bad = false) : r.bad = false ∧ r.s = encS (rdS r).1 ++ (rdS r).2.s ∧ Byt (rdS r).2.s := by
  unfold rdS at h ⊢
  simp only at h ⊢
  have b1 := up_byt (m := 3) hb
  have b2 := text_byt (m := 16) b1
  obtain ⟨h1, e1⟩ := up_eq b2 h
  obtain ⟨h2, e2, _⟩ := text_eq b1 h1
  obtain ⟨h3, e3⟩ := up_eq hb h2
  refine ⟨h3, ?_, up_byt b2⟩
  unfold encS
  rw [List.append_assoc, List.append_assoc, ← e1, ← e2]
  exact e3
theorem rdS_stays {r : RD} (h : (rdS r).2.bad = false) : r.bad = false := by
  unfold rdS at h
  simp only at h
  exact up_stays (text_stays (up_stays h))
theorem rdSn_stays : ∀ (n : Nat) (r : RD), (rdSn n r).2.bad = false → r.bad = false
  | 0, _, h => h
  | n + 1, _, h => rdS_stays (rdSn_stays n _ h)
theorem rdSn_len : ∀ (n : Nat) (r : RD), (rdSn n r).1.length = n
  | 0, _ => rfl
  | n + 1, _ => by
    unfold rdSn
    simp only [List.length_cons]
    rw [rdSn_len n]
theorem rdSn_eq : ∀ (n : Nat) (r : RD), Byt r.s → (rdSn n r).2.bad = false → r.s = (rdSn n r).1.flatMap encS ++ (rdSn n r).2.s ∧ Byt (rdSn n r).2.s
  | 0, r, hb, _ => ⟨rfl, hb⟩
  | n + 1, r, hb, h => by
    unfold rdSn at h ⊢
    simp only at h ⊢
    have h1 : (rdS r).2.bad = false := rdSn_stays n _ h
    obtain ⟨_, e1, b1⟩ := rdS_eq hb h1
    obtain ⟨e2, b2⟩ := rdSn_eq n _ b1 h
    refine ⟨?_, b2⟩
    rw [List.flatMap_cons, List.append_assoc, ← e2]
    exact e1
theorem rdSs_eq {r : RD} (hb : Byt r.s) (h : (rdSs r).2.bad = false) : r.bad = false ∧ r.s = encSs (rdSs r).1 ++ (rdSs r).2.s ∧ Byt (rdSs r).2.s := by
  unfold rdSs at h ⊢
  simp only at h ⊢
  have h1 : (r.up 64).2.bad = false := rdSn_stays _ _ h
  obtain ⟨h2, e1⟩ := up_eq hb h1
  obtain ⟨e2, b2⟩ := rdSn_eq _ _ (up_byt (m := 64) hb) h
  refine ⟨h2, ?_, b2⟩
  rw [if_neg (by rw [h]; exact Bool.false_ne_true)]
  unfold encSs
  rw [rdSn_len, List.append_assoc, ← e2]
  exact e1
theorem rdSs_stays {r : RD} (h : (rdSs r).2.bad = false) : r.bad = false := by
  unfold rdSs at h
  simp only at h
  exact up_stays (rdSn_stays _ _ h)
def okS (t : Stp) : Bool := decide (t.part ≤ 3) && decide (1 ≤ t.name.length) && decide (t.name.length ≤ 16) && decide (1 ≤ t.budget) && decide (t.budget ≤ 9)
def okSs (l : List Stp) : Bool := decide (1 ≤ l.length) && decide (l.length ≤ 64) && l.all okS

/-- a command -/
structure Cmd where
  kind : Nat
  session : Nat
  seq : Nat
  saga : Nat
  steps : List Stp
  step : Nat
  back : Bool
  try_ : Nat
  ok : Bool
  now : Nat
def bare (c : Cmd) : Bool := decide (c.step = 0) && !c.back && decide (c.try_ = 0) && !c.ok
/-- may a command be? -/
def may (c : Cmd) : Bool :=
  if c.kind = 1 ∨ c.kind = 3 ∨ c.kind = 5 then c.steps.isEmpty && bare c
  else if c.kind = 2 then okSs c.steps && bare c
  else if c.kind = 4 then c.steps.isEmpty && decide (c.step < 64) && decide (c.try_ < 9) && decide (c.session = 0) && decide (c.seq = 0)
  else false
def truth (b : Bool) : Nat := if b = true then 1 else 0
def enc (c : Cmd) : List Int :=
  num c.kind ++ num c.session ++ num c.seq ++ num c.saga ++ num c.now ++ (if c.kind = 2 then encSs c.steps else if c.kind = 4 then num c.step ++ num (truth c.back) ++ num c.try_ ++ num (truth c.ok) else [])
/-- what is read, a step below m, a try below k -/
def rdC (m k : Nat) (s : List Int) : Cmd × RD :=
  let a := (RD.mk s false).up 5
  let b := a.2.num
  let c := b.2.num
  let d := c.2.num
  let e := d.2.num
  if a.1 = 2 then (let y := rdSs e.2; (⟨a.1, b.1, c.1, d.1, y.1, 0, false, 0, false, e.1⟩, y.2))
  else if a.1 = 4 then (let f := e.2.up m; let g := f.2.up 1; let h := g.2.up k; let i := h.2.up 1; (⟨a.1, b.1, c.1, d.1, [], f.1, decide (g.1 = 1), h.1, decide (i.1 = 1), e.1⟩, i.2))
  else (⟨a.1, b.1, c.1, d.1, [], 0, false, 0, false, e.1⟩, e.2)
/-- the program's Decode -/
def dec (s : List Int) : Option Cmd := let x := rdC 64 9 s; if x.2.done = true ∧ may x.1 = true then some x.1 else none
theorem truth_one {x : Nat} (h : x ≤ 1) : truth (decide (x = 1)) = x := by
  unfold truth
  by_cases e : x = 1
  · rw [if_pos (by simpa using e)]; exact e.symm
  · rw [if_neg (by simpa using e)]; omega
/-- what is read is what would be written -/
theorem rdC_canon {m k : Nat} {s : List Int} (hb : Byt s) (h : (rdC m k s).2.bad = false) : s = enc (rdC m k s).1 ++ (rdC m k s).2.s := by
  unfold rdC at h ⊢
  simp only at h ⊢
  have hb0 : Byt (RD.mk s false).s := hb
  have b1 := up_byt (m := 5) hb0
  have b2 := num_byt b1
  have b3 := num_byt b2
  have b4 := num_byt b3
  have b5 := num_byt b4
  have chain : (((((RD.mk s false).up 5).2.num).2.num).2.num).2.num.2.bad = false → s = num ((RD.mk s false).up 5).1 ++ num (((RD.mk s false).up 5).2.num).1 ++ num ((((RD.mk s false).up 5).2.num).2.num).1 ++ num (((((RD.mk s false).up 5).2.num).2.num).2.num).1 ++ num ((((((RD.mk s false).up 5).2.num).2.num).2.num).2.num).1 ++ ((((((RD.mk s false).up 5).2.num).2.num).2.num).2.num).2.s := fun h5 => by
    obtain ⟨h4, e5⟩ := num_eq b4 h5
    obtain ⟨h3, e4⟩ := num_eq b3 h4
    obtain ⟨h2, e3⟩ := num_eq b2 h3
    obtain ⟨h1, e2⟩ := num_eq b1 h2
    obtain ⟨_, e1⟩ := up_eq hb0 h1
    rw [List.append_assoc, List.append_assoc, List.append_assoc, List.append_assoc, ← e5, ← e4, ← e3, ← e2]
    exact e1
  split at h
  · rename_i hk
    rw [if_pos hk]
    obtain ⟨h5, e6, _⟩ := rdSs_eq b5 h
    unfold enc
    simp only [if_pos hk]
    rw [List.append_assoc, ← e6]
    exact chain h5
  · rename_i hk
    split at h
    · rename_i hk4
      rw [if_neg hk, if_pos hk4]
      have b6 := up_byt (m := m) b5
      have b7 := up_byt (m := 1) b6
      have b8 := up_byt (m := k) b7
      obtain ⟨h8, e9⟩ := up_eq b8 h
      obtain ⟨h7, e8⟩ := up_eq b7 h8
      obtain ⟨h6, e7⟩ := up_eq b6 h7
      obtain ⟨h5, e6⟩ := up_eq b5 h6
      have e10 : (((((((RD.mk s false).up 5).2.num).2.num).2.num).2.num).2).s = num ((((((((RD.mk s false).up 5).2.num).2.num).2.num).2.num).2).up m).1 ++ (num (((((((((RD.mk s false).up 5).2.num).2.num).2.num).2.num).2).up m).2.up 1).1 ++ (num ((((((((((RD.mk s false).up 5).2.num).2.num).2.num).2.num).2).up m).2.up 1).2.up k).1 ++ (num (((((((((((RD.mk s false).up 5).2.num).2.num).2.num).2.num).2).up m).2.up 1).2.up k).2.up 1).1 ++ (((((((((((RD.mk s false).up 5).2.num).2.num).2.num).2.num).2).up m).2.up 1).2.up k).2.up 1).2.s))) := by
        rw [← e9, ← e8, ← e7]
        exact e6
      have h10 := chain h5
      rw [e10] at h10
      unfold enc
      simp only [if_neg hk, if_pos hk4]
      rw [truth_one up_fst, truth_one up_fst]
      simpa [List.append_assoc] using h10
    · rename_i hk4
      rw [if_neg hk, if_neg hk4]
      unfold enc
      simp only [if_neg hk, if_neg hk4, List.append_nil]
      exact chain h
theorem dec_canon {s : List Int} {c : Cmd} (hb : Byt s) (h : dec s = some c) : enc c = s ∧ may c = true := by
  unfold dec at h
  simp only at h
  split at h
  · rename_i hc
    cases h
    obtain ⟨h1, h2⟩ := hc
    unfold RD.done at h1
    simp only [Bool.and_eq_true, Bool.not_eq_true', List.isEmpty_iff] at h1
    have := rdC_canon hb h1.2
    rw [h1.1, List.append_nil] at this
    exact ⟨this.symm, h2⟩
  · cases h
/-- the document's Decode: other limits, and what is read is compared with what would be written -/
def decR (s : List Int) : Option Cmd := let x := rdC 63 8 s; if x.2.done = true ∧ may x.1 = true ∧ enc x.1 = s then some x.1 else none
theorem rdC_less {s : List Int} (h : (rdC 64 9 s).2.bad = false) (hm : may (rdC 64 9 s).1 = true) : rdC 63 8 s = rdC 64 9 s := by
  unfold rdC at h hm ⊢
  simp only at h hm ⊢
  by_cases hk : ((RD.mk s false).up 5).1 = 2
  · rw [if_pos hk, if_pos hk]
  · rw [if_neg hk] at h hm
    rw [if_neg hk, if_neg hk]
    by_cases hk4 : ((RD.mk s false).up 5).1 = 4
    · rw [if_pos hk4] at h hm
      rw [if_pos hk4, if_pos hk4]
      generalize ((((((RD.mk s false).up 5).2.num).2.num).2.num).2.num).2 = E at h hm ⊢
      simp only at h
      have h1 := up_stays h
      have h2 := up_stays h1
      have h3 := up_stays h2
      unfold may at hm
      simp only [hk4] at hm
      simp at hm
      have e1 : E.up 63 = E.up 64 := up_less h3 (by omega)
      have e2 : ((E.up 64).2.up 1).2.up 8 = ((E.up 64).2.up 1).2.up 9 := up_less h1 (by omega)
      rw [e1, e2]
    · rw [if_neg hk4, if_neg hk4]
theorem rdC_more {s : List Int} (h : (rdC 63 8 s).2.bad = false) : rdC 64 9 s = rdC 63 8 s := by
  unfold rdC at h ⊢
  simp only at h ⊢
  by_cases hk : ((RD.mk s false).up 5).1 = 2
  · rw [if_pos hk, if_pos hk]
  · rw [if_neg hk] at h
    rw [if_neg hk, if_neg hk]
    by_cases hk4 : ((RD.mk s false).up 5).1 = 4
    · rw [if_pos hk4] at h
      rw [if_pos hk4, if_pos hk4]
      generalize ((((((RD.mk s false).up 5).2.num).2.num).2.num).2.num).2 = E at h ⊢
      simp only at h
      have h1 := up_stays h
      have h2 := up_stays h1
      have h3 := up_stays h2
      have e1 : E.up 64 = E.up 63 := up_more h3 (by omega)
      have e2 : ((E.up 63).2.up 1).2.up 9 = ((E.up 63).2.up 1).2.up 8 := up_more h1 (by omega)
      rw [e1, e2]
    · rw [if_neg hk4, if_neg hk4]
theorem done_bad {r : RD} (h : r.done = true) : r.bad = false ∧ r.s = [] := by
  unfold RD.done at h
  simp only [Bool.and_eq_true, Bool.not_eq_true', List.isEmpty_iff] at h
  exact ⟨h.2, h.1⟩
/-- both read the same -/
theorem decR_eq {s : List Int} (hb : Byt s) : decR s = dec s := by
  unfold decR dec
  simp only
  by_cases h : (rdC 64 9 s).2.done = true ∧ may (rdC 64 9 s).1 = true
  · have e := rdC_less (done_bad h.1).1 h.2
    have hc := rdC_canon hb (done_bad h.1).1
    rw [(done_bad h.1).2, List.append_nil] at hc
    rw [if_pos h, e, if_pos ⟨h.1, h.2, hc.symm⟩]
  · rw [if_neg h, if_neg]
    rintro ⟨h1, h2, _⟩
    have e := rdC_more (done_bad h1).1
    rw [e] at h
    exact h ⟨h1, h2⟩
end Go.Proofs.Ytogeeeigfhmpmaa.Pk
