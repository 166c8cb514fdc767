/- What the statements of this seat lean on, part H: what the program's and the document's functions compute, in plain data. -/
import Derived.Test.YtekmjhenhgmpgaaMG

/- Records framed one behind the other, cut off: what is scanned. -/
namespace Go.Proofs.Ytekmjhenhgmpgaa
open Go.RowKit

namespace Wb
/-- where the records end -/
def ends (l : List ByteArray) (k : Nat) : List Int := (List.range k).map (fun i => ((Wal.text (l.take (i + 1))).size : Int))
theorem ends_length (l : List ByteArray) (k : Nat) : (ends l k).length = k := by simp [ends]
theorem ends_snoc (l : List ByteArray) (k : Nat) : ends l (k + 1) = ends l k ++ [((Wal.text (l.take (k + 1))).size : Int)] := by
  unfold ends
  rw [List.range_succ, List.map_append]
  rfl
theorem ends_at (l : List ByteArray) {k i : Nat} (h : i < k) : (ends l k).getD i 0 = ((Wal.text (l.take (i + 1))).size : Int) := by
  unfold ends
  rw [List.getD_eq_getElem?_getD, List.getElem?_map, List.getElem?_range h]
  rfl
theorem text_mono (l : List ByteArray) {i k : Nat} (h : i ≤ k) : (Wal.text (l.take i)).size ≤ (Wal.text (l.take k)).size := by
  have := Wal.text_take_le (l.take k) i
  rw [List.take_take, show min i k = i from by omega] at this
  exact this
theorem text_lt (l : List ByteArray) {k : Nat} (h : k < l.length) : (Wal.text (l.take k)).size < (Wal.text (l.take (k + 1))).size := by
  rw [Wal.take_snoc h, Wal.text_snoc, ByteArray.size_append, textOf_size]
  have := Wal.frame_pos (nums (l.getD k ByteArray.empty))
  omega
theorem nums_text (l : List ByteArray) : nums (Wal.text l) = Wal.frames (l.map nums) := by
  unfold Wal.text
  refine nums_textOf ?_
  intro x hx
  have : Wal.Byte (Wal.frames (l.map nums)) := by
    have h1 : ∀ L : List (List Int), (∀ y ∈ L, Wal.Byte y) → Wal.Byte (Wal.frames L) := by
      intro L
      induction L with
      | nil => intro _ x hx; cases hx
      | cons y r ih => intro h; rw [Wal.frames_cons]; exact (Wal.frame_byte (h y (by simp))).append (ih (fun z hz => h z (by simp [hz])))
    exact h1 _ (by intro y hy; obtain ⟨s, _, rfl⟩ := List.mem_map.1 hy; exact nums_byte s)
  exact this x hx
theorem recs_of {l : List ByteArray} (h : ∀ i, i < l.length → (l.getD i ByteArray.empty).size ≤ 65536) : Wal.Recs (l.map nums) := by
  intro x hx
  obtain ⟨s, hs, rfl⟩ := List.mem_map.1 hx
  obtain ⟨i, hi, rfl⟩ := List.mem_iff_getElem.1 hs
  have := h i hi
  rw [List.getD_eq_getElem?_getD, List.getElem?_eq_getElem hi, Option.getD_some] at this
  exact ⟨nums_byte _, by rw [nums_length]; exact this⟩
theorem map_nums (l : List ByteArray) : (l.map nums).map textOf = l := by
  rw [List.map_map]
  conv => rhs; rw [← List.map_id l]
  exact List.map_congr_left (fun x _ => textOf_nums x)
/-- the records of frames that are cut off -/
theorem scan_take {l : List ByteArray} (h : ∀ i, i < l.length → (l.getD i ByteArray.empty).size ≤ 65536) (n : Nat) :
    ∃ k, k ≤ l.length ∧ Wal.scan (nums ((Wal.text l).extract 0 n)) = ((l.take k).map nums, (Wal.text (l.take k)).size) ∧ (Wal.text (l.take k)).size ≤ n ∧ (k < l.length → n < (Wal.text (l.take (k + 1))).size) := by
  obtain ⟨k, hk, h1, h2, h3⟩ := Wal.scan_cut (recs_of h) n
  rw [List.length_map] at hk h3
  have e : nums ((Wal.text l).extract 0 n) = (Wal.frames (l.map nums)).take n := by rw [nums_extract, nums_text]; simp
  refine ⟨k, hk, ?_, ?_, ?_⟩
  · rw [e, h1, List.map_take, Wal.text_size, List.map_take]
  · rw [Wal.text_size, List.map_take]; exact h2
  · intro hlt
    rw [Wal.text_size, List.map_take]
    exact h3 hlt
theorem scan_all {l : List ByteArray} (h : ∀ i, i < l.length → (l.getD i ByteArray.empty).size ≤ 65536) : Wal.scan (nums (Wal.text l)) = (l.map nums, (Wal.text l).size) := by
  have h1 := Wal.scan_frames (recs_of h) (t := []) (by intro x hx; cases hx) Wal.first_nil
  rw [List.append_nil] at h1
  rw [nums_text, h1, Wal.text_size]
end Wb
end Go.Proofs.Ytekmjhenhgmpgaa

/- A store's calls on a disk that has fuel for so many steps, in plain data; and what is opened behind a crash. -/
namespace Go.Proofs.Ytekmjhenhgmpgaa
open Go.RowKit
set_option maxRecDepth 100000

namespace Sto
theorem chain_first : ∀ (a b : List Ent) (i t : Nat), Rl.chain i t (a ++ b) = true → Rl.chain i t a = true
  | [], _, _, _, _ => rfl
  | x :: r, b, i, t, h => by
    rw [List.cons_append] at h
    unfold Rl.chain at h ⊢
    rw [Bool.and_eq_true] at h ⊢
    exact ⟨h.1, chain_first r b _ _ h.2⟩
theorem rb_first {h : Hrd} {p : Snp} {a b : List Ent} (hr : rb ⟨h, p, a ++ b⟩ = true) : rb ⟨h, p, a⟩ = true := by
  unfold rb rightB Rl.newOk at hr ⊢
  simp only [Bool.and_eq_true] at hr ⊢
  exact ⟨⟨hr.1.1, chain_first _ _ _ _ hr.1.2⟩, hr.2⟩
theorem rb_hard {h h' : Hrd} {p : Snp} {a : List Ent} (hr : rb ⟨h, p, a⟩ = true) (hv : -1 ≤ h'.vote ∧ h'.vote < 7) : rb ⟨h', p, a⟩ = true := by
  unfold rb rightB at hr ⊢
  simp only [Bool.and_eq_true, decide_eq_true_eq] at hr ⊢
  exact ⟨hr.1, hv⟩
theorem take_ent2 {s s' : St} {b : ByteArray} (hk : kind b = 2) (h : take s b = some s') : ∃ e, s' = ⟨s.hard, s.snap, s.es ++ [e]⟩ := by
  unfold take takeK at h
  rw [hk, if_neg (by decide), if_pos rfl] at h
  split at h
  · cases h; exact ⟨_, rfl⟩
  · cases h
theorem take_cut3 {s s' : St} {b : ByteArray} (hk : kind b = 3) (h : take s b = some s') : ∃ i, s' = ⟨s.hard, s.snap, cutOff i s.es⟩ := by
  unfold take takeK at h
  rw [hk, if_neg (by decide), if_neg (by decide), if_pos rfl] at h
  split at h
  · cases h; exact ⟨_, rfl⟩
  · cases h
theorem said_ents2 : ∀ (L : List ByteArray) (s s' : St), (∀ b ∈ L, kind b = 2) → said s L = some s' → ∃ X, s' = ⟨s.hard, s.snap, s.es ++ X⟩
  | [], s, s', _, h => by cases h; exact ⟨[], by simp⟩
  | c :: L, s, s', hk, h => by
    unfold said at h
    cases hc : take s c with
    | none => rw [hc] at h; cases h
    | some s1 =>
      rw [hc] at h
      obtain ⟨e, rfl⟩ := take_ent2 (hk c (by simp)) hc
      obtain ⟨X, rfl⟩ := said_ents2 L _ s' (fun b hb => hk b (by simp [hb])) h
      exact ⟨e :: X, by simp⟩
/-- each first part of the records makes a right state -/
def Good (s : St) (L : List ByteArray) : Prop := ∀ j, ∃ sj, said s (L.take j) = some sj ∧ rb sj = true
theorem Good.append {s s1 : St} {A B : List ByteArray} (hA : Good s A) (h1 : said s A = some s1) (hB : Good s1 B) : Good s (A ++ B) := by
  intro j
  rw [List.take_append, said_append]
  by_cases hj : j ≤ A.length
  · obtain ⟨sj, h2, h3⟩ := hA j
    refine ⟨sj, ?_, h3⟩
    rw [h2, Nat.sub_eq_zero_of_le hj]
    rfl
  · rw [List.take_of_length_le (by omega), h1]
    exact hB (j - A.length)
theorem Good.few {s s1 : St} {A : List ByteArray} (hl : A.length ≤ 1) (h0 : rb s = true) (h1 : said s A = some s1) (hr : rb s1 = true) : Good s A := by
  intro j
  by_cases hj : A.length ≤ j
  · rw [List.take_of_length_le hj]; exact ⟨s1, h1, hr⟩
  · have : j = 0 := by omega
    subst this
    exact ⟨s, rfl, h0⟩
theorem Good.ents {s s1 : St} {A : List ByteArray} (hk : ∀ b ∈ A, kind b = 2) (h1 : said s A = some s1) (hr : rb s1 = true) : Good s A := by
  intro j
  have h2 := said_append (A.take j) (A.drop j) s
  rw [List.take_append_drop, h1] at h2
  cases hj : said s (A.take j) with
  | none => rw [hj] at h2; cases h2
  | some sj =>
    rw [hj] at h2
    obtain ⟨X, rfl⟩ := said_ents2 _ _ _ (fun b hb => hk b (List.mem_of_mem_take hb)) hj
    obtain ⟨Y, rfl⟩ := said_ents2 _ _ _ (fun b hb => hk b (List.mem_of_mem_drop hb)) h2.symm
    exact ⟨_, rfl, rb_first hr⟩
theorem cutOff_first (l : List Ent) (i : Nat) : ∃ r, l = cutOff i l ++ r := by
  unfold cutOff
  exact ⟨_, (List.takeWhile_append_dropWhile).symm⟩
theorem saved_some {s s2 : St} {h : Hrd} {l : List Ent} (hs : saved s h l = some s2) : said s (out s h l) = some s2 ∧ rb s2 = true := by
  unfold saved rightO at hs
  cases hsd : said s (out s h l) with
  | none => rw [hsd] at hs; cases hs
  | some s3 =>
    rw [hsd] at hs
    simp only at hs
    split at hs
    next hr => cases hs; exact ⟨rfl, hr⟩
    next => cases hs
/-- the records of a Save that may be: each first part makes a right state -/
theorem out_good {s s2 : St} {h : Hrd} {l : List Ent} (hr : rb s = true) (hh : h.Wf) (hl : ∀ e ∈ l, e.Wf) (hs : saved s h l = some s2) : Good s (out s h l) := by
  obtain ⟨hsd, hr2⟩ := saved_some hs
  unfold out at hsd ⊢
  rw [said_append] at hsd
  cases h01 : said s (out0 s h ++ out1 s l) with
  | none => rw [h01] at hsd; cases hsd
  | some s1 =>
    rw [h01] at hsd
    rw [said_append] at h01
    cases h0 : said s (out0 s h) with
    | none => rw [h0] at h01; cases h01
    | some s0 =>
      rw [h0] at h01
      have r0 : rb s0 = true := by
        unfold out0 at h0
        split at h0
        · cases h0; exact hr
        · have e : said s [hardB h] = take s (hardB h) := by unfold said; cases take s (hardB h) <;> rfl
          rw [e, take_hard hh.term (wf_both hh.vote)] at h0
          split at h0
          next hv => cases h0; exact rb_hard hr hv
          next => cases h0
      have l0 : (out0 s h).length ≤ 1 := (out0_short (s := s) hh).2.2
      have l1 : (out1 s l).length ≤ 1 := (out1_short (s := s) hl).2.2
      have r1 : rb s1 = true := by
        unfold out1 at h01
        split at h01
        next hc =>
          have e : (some s0).bind (fun s' => said s' [cutB (l.getD 0 Ent.zero).index]) = take s0 (cutB (l.getD 0 Ent.zero).index) := by
            show said s0 _ = _
            unfold said; cases take s0 (cutB (l.getD 0 Ent.zero).index) <;> rfl
          rw [e] at h01
          obtain ⟨i, rfl⟩ := take_cut3 (kind_cut (by rw [List.getD_eq_getElem?_getD, List.getElem?_eq_getElem hc.1]; exact (hl _ (List.getElem_mem hc.1)).index)) h01
          obtain ⟨r, hrr⟩ := cutOff_first s0.es i
          have : rb ⟨s0.hard, s0.snap, cutOff i s0.es ++ r⟩ = true := by rw [← hrr]; exact r0
          exact rb_first this
        · have e : (some s0).bind (fun s' => said s' []) = some s0 := rfl
          rw [e] at h01
          cases h01; exact r0
      have g0 := Good.few l0 hr h0 r0
      have g1 := Good.few l1 r0 h01 r1
      have h01' : said s (out0 s h ++ out1 s l) = some s1 := by rw [said_append, h0]; exact h01
      refine (g0.append h0 g1).append h01' (Good.ents (fun b hb => ?_) hsd hr2)
      obtain ⟨e, he, rfl⟩ := List.mem_map.1 hb
      exact kind_ent (hl e he)

/-- the disk of the one file -/
def DF (A B : ByteArray) (F : Int) (b : Bool) : DM := one 0 (some (A, B)) F b
theorem fuel_ge {F : Int} (h : -1 ≤ F) (h1 : F ≤ 9223372036854775807) : -1 ≤ One.dec F ∧ One.dec F ≤ 9223372036854775807 := by unfold One.dec; split <;> omega
/-- Save, on a disk with fuel for F steps -/
theorem save_F {A : ByteArray} {s : St} {m : Nat} {h : Hrd} {l : List Ent} {F : Int} (hI : Iv A s m) (hh : h.Wf) (hl : ∀ e ∈ l, e.Wf) (hb : m + (1 + l.length + Lt.es l) ≤ 400) (hF : -1 ≤ F) (hF2 : F ≤ 9223372036854775807) :
    (saved s h l = none ∧ saveE (DF A ByteArray.empty F false) 0 s h l = 1 ∧ saveM (DF A ByteArray.empty F false) 0 s h l = DF A ByteArray.empty F false ∧ saveS (DF A ByteArray.empty F false) 0 s h l = s) ∨
    (∃ s2 A' G, saved s h l = some s2 ∧ saveE (DF A ByteArray.empty F false) 0 s h l = 0 ∧ saveM (DF A ByteArray.empty F false) 0 s h l = DF A' ByteArray.empty G false ∧ -1 ≤ G ∧ G ≤ 9223372036854775807 ∧ saveS (DF A ByteArray.empty F false) 0 s h l = s2 ∧ Iv A' s2 (m + (1 + l.length + Lt.es l))) ∨
    (∃ s2 B, saved s h l = some s2 ∧ saveE (DF A ByteArray.empty F false) 0 s h l = 10 ∧ saveM (DF A ByteArray.empty F false) 0 s h l = DF A (Wal.text B) 0 true ∧ (B = [] ∨ B = out s h l)) := by
  obtain ⟨o1, o2, o3⟩ := out_short (s := s) hh hl (by omega)
  have hz := hI.size
  have hzl := hI.len
  have e0 : ByteArray.empty.size = 0 := rfl
  cases hs : saved s h l with
  | none => exact .inl ⟨rfl, by unfold saveE; rw [hs], by unfold saveM; rw [hs], by unfold saveS; rw [hs]⟩
  | some s2 =>
    right
    have hsd := saved_some hs
    by_cases h0 : (out s h l).length = 0
    · have hn : out s h l = [] := List.length_eq_zero_iff.1 h0
      have hs2 : s2 = s := by rw [hn] at hsd; exact (Option.some.inj hsd.1).symm
      subst hs2
      exact .inl ⟨s2, A, F, rfl, by unfold saveE; rw [hs]; simp only; rw [if_pos h0], by unfold saveM; rw [hs]; simp only; rw [if_pos h0], hF, hF2, by unfold saveS; rw [hs]; simp only; rw [if_pos h0], hI.more (by omega)⟩
    · by_cases hF0 : F = 0
      · subst hF0
        obtain ⟨g1, g2⟩ := One.app_dry (n := 0) (by decide) (by decide) (A := A) (B := ByteArray.empty) (l := out s h l) o1.long (by omega)
        exact .inr ⟨s2, [], rfl, by unfold saveE; rw [hs]; simp only; rw [if_neg h0]; exact g1, by unfold saveM; rw [hs]; simp only; rw [if_neg h0]; exact g2, .inl rfl⟩
      · by_cases hF1 : F = 1
        · subst hF1
          obtain ⟨g1, g2⟩ := One.app_half (n := 0) (by decide) (by decide) (A := A) (B := ByteArray.empty) (l := out s h l) o1.long (by omega)
          rw [ByteArray.empty_append] at g2
          exact .inr ⟨s2, out s h l, rfl, by unfold saveE; rw [hs]; simp only; rw [if_neg h0]; exact g1, by unfold saveM; rw [hs]; simp only; rw [if_neg h0]; exact g2, .inr rfl⟩
        · obtain ⟨g1, g2⟩ := One.app_go (n := 0) (by decide) (by decide) (A := A) (B := ByteArray.empty) (l := out s h l) (F := F) o1.long hF0 hF1 (by omega)
          rw [ByteArray.empty_append] at g2
          obtain ⟨u1, u2⟩ := fuel_ge hF hF2
          obtain ⟨v1, v2⟩ := fuel_ge u1 u2
          refine .inl ⟨s2, A ++ Wal.text (out s h l), One.dec (One.dec F), rfl, ?_, ?_, v1, v2, ?_, ⟨?_, hsd.2, ?_, ?_, ?_, ?_⟩⟩
          · unfold saveE; rw [hs]; simp only; rw [if_neg h0]; exact g1
          · unfold saveM; rw [hs]; simp only; rw [if_neg h0]; exact g2
          · unfold saveS; rw [hs]; simp only; rw [if_neg h0, if_pos (show Wal.appE (DF A ByteArray.empty F false) 0 (out s h l) = 0 from g1)]
          · obtain ⟨R, r1, r2, r3⟩ := hI.ex
            refine ⟨R ++ out s h l, by rw [Wal.text_append, r1], ?_, r3.append o1⟩
            rw [said_append, r2]
            exact hsd.1
          · rw [ByteArray.size_append]; omega
          · have := said_len _ _ _ hsd.1
            omega
          · exact said_wf _ _ _ hsd.1 hI.wf
          · rw [said_same _ _ _ (out_kind hh hl) hsd.1]; exact hI.sd
/-- Anew, on a disk with fuel for F steps -/
theorem anew_F {A : ByteArray} {s c : St} {m : Nat} {F : Int} (hI : Iv A s m) (hh : c.hard.Wf) (hp : c.snap.Wf) (hl : ∀ e ∈ c.es, e.Wf) (hb : m + (1 + c.es.length + c.snap.data.size / 50 + Lt.es c.es) ≤ 400) (hF : -1 ≤ F) (hF2 : F ≤ 9223372036854775807) :
    (anewE (DF A ByteArray.empty F false) 0 c = 1 ∧ anewM (DF A ByteArray.empty F false) 0 c = DF A ByteArray.empty F false ∧ anewS (DF A ByteArray.empty F false) 0 s c = s) ∨
    (∃ A' G, anewE (DF A ByteArray.empty F false) 0 c = 0 ∧ anewM (DF A ByteArray.empty F false) 0 c = DF A' ByteArray.empty G false ∧ -1 ≤ G ∧ G ≤ 9223372036854775807 ∧ anewS (DF A ByteArray.empty F false) 0 s c = c ∧ Iv A' c (m + (1 + c.es.length + c.snap.data.size / 50 + Lt.es c.es))) ∨
    (anewE (DF A ByteArray.empty F false) 0 c = 10 ∧ anewM (DF A ByteArray.empty F false) 0 c = DF A ByteArray.empty 0 true) := by
  by_cases hok : anewOk c = true
  · right
    obtain ⟨f1, f2⟩ := anewR_short hh hp hl (by omega) (by omega)
    by_cases hF0 : F = 0
    · subst hF0
      obtain ⟨g1, g2⟩ := One.anew_dry (n := 0) (by decide) (by decide) (o := some (A, ByteArray.empty)) (l := anewR c) f1.long (by omega)
      exact .inr ⟨by unfold anewE; rw [if_pos hok]; exact g1, by unfold anewM; rw [if_pos hok]; exact g2⟩
    · obtain ⟨g1, g2⟩ := One.anew_go (n := 0) (by decide) (by decide) (o := some (A, ByteArray.empty)) (l := anewR c) (F := F) f1.long hF0 (by omega)
      obtain ⟨u1, u2⟩ := fuel_ge hF hF2
      have hok2 := hok
      unfold anewOk at hok2
      rw [Bool.and_eq_true, decide_eq_true_eq] at hok2
      refine .inl ⟨Wal.text (anewR c), One.dec F, ?_, ?_, u1, u2, ?_, ⟨⟨anewR c, rfl, said_anew hh hp hl hok, f1⟩, hok2.1, by omega, by omega, hl, hok2.2⟩⟩
      · unfold anewE; rw [if_pos hok]; exact g1
      · unfold anewM; rw [if_pos hok]; exact g2
      · unfold anewS; rw [if_pos hok, if_pos (show Wal.anewE (DF A ByteArray.empty F false) 0 (anewR c) = 0 from g1)]
  · exact .inl ⟨by unfold anewE; rw [if_neg hok], by unfold anewM; rw [if_neg hok], by unfold anewS; rw [if_neg hok]⟩
/-- a crash with nothing soft -/
theorem crash_firm (A : ByteArray) (F : Int) (b : Bool) (keep : Int → Int) : (DF A ByteArray.empty F b).crash keep = D A := by
  unfold DF
  rw [One.crash]
  simp only [left_firm]
  rfl
theorem text_none {X : List ByteArray} (h : (Wal.text X).size = 0) : X = [] := by
  cases X with
  | nil => rfl
  | cons x r =>
    have := Wb.text_lt (x :: r) (k := 0) (by simp)
    have h2 := Wal.text_take_le (x :: r) (0 + 1)
    omega
/-- a crash behind a Save that was not answered: its first records are there -/
theorem crash_soft {A : ByteArray} {s : St} {m : Nat} {B : List ByteArray} (hI : Iv A s m) (hm : m ≤ 400) (hB : Short B) (hz : (Wal.text B).size ≤ 200000) (hg : Good s B) (F : Int) (b : Bool) (k : Int) :
    ∃ (M : DM) (j : Nat) (sj : St), (DF A (Wal.text B) F b).crash (keepOf [k]) = M ∧ openE M 0 7 = 0 ∧ said (first 7) (Wal.openL M 0) = some sj ∧ j ≤ B.length ∧ said s (B.take j) = some sj := by
  obtain ⟨R, rfl, hs, hR⟩ := hI.ex
  have hzA := hI.size
  have e0 : ByteArray.empty.size = 0 := rfl
  have hk : keepOf [k] 0 = k := rfl
  unfold DF
  rw [One.crash]
  simp only
  unfold leftFile
  simp only
  rw [hk]
  by_cases hc : (Wal.text R).size = 0 ∧ (max 0 (min k ((Wal.text B).size : Int))).toNat = 0 ∧ (Wal.text B).size ≠ 0
  · rw [if_pos hc]
    have hx := text_none hc.1
    subst hx
    cases hs
    obtain ⟨h1, _, h3⟩ := One.open_none (n := 0) (by decide) (by decide)
    refine ⟨_, 0, first 7, rfl, ?_, ?_, by omega, rfl⟩
    · unfold openE
      rw [if_neg (by decide), if_neg (by rw [h1]; decide), h3]
      decide +kernel
    · rw [h3]; rfl
  · rw [if_neg hc]
    generalize hj : (max 0 (min k ((Wal.text B).size : Int))).toNat = j at hc
    have hjl : j ≤ (Wal.text B).size := by omega
    have heach : ∀ i, i < (R ++ B).length → ((R ++ B).getD i ByteArray.empty).size ≤ 65536 := by
      intro i hi
      rw [List.getD_eq_getElem?_getD, List.getElem?_eq_getElem hi, Option.getD_some]
      exact (hR.append hB) _ (List.getElem_mem hi)
    obtain ⟨t, ht, hsc, hle, hgt⟩ := Wb.scan_take heach ((Wal.text R).size + j)
    have hex : (Wal.text (R ++ B)).extract 0 ((Wal.text R).size + j) = Wal.text R ++ (Wal.text B).extract 0 j := by
      apply nums_inj
      rw [Wal.text_append, nums_extract, nums_append, nums_append, nums_extract, List.drop_zero, List.drop_zero, Nat.sub_zero, Nat.sub_zero, List.take_append, nums_length, Nat.add_sub_cancel_left]
      rw [List.take_of_length_le (by rw [nums_length]; omega)]
    rw [hex] at hsc
    have hXt : R.length ≤ t := by
      rcases Nat.lt_or_ge t R.length with hlt | hge
      · have h5 := hgt (by rw [List.length_append]; omega)
        have h6 := Wb.text_mono (R ++ B) (i := t + 1) (k := R.length) (by omega)
        rw [List.take_left] at h6
        omega
      · exact hge
    have hz2 : (Wal.text R ++ (Wal.text B).extract 0 j).size ≤ 400000 := by rw [ByteArray.size_append]; simp; omega
    obtain ⟨h1, _, h3⟩ := One.open_some (n := 0) (by decide) (by decide) (A := Wal.text R ++ (Wal.text B).extract 0 j) (B := ByteArray.empty) (by omega)
    rw [ByteArray.append_empty] at h3
    have h4 : Wal.openL (one 0 (some (Wal.text R ++ (Wal.text B).extract 0 j, ByteArray.empty)) (-1) false) 0 = (R ++ B).take t := by
      rw [h3]
      unfold Wal.recs
      rw [hsc]
      exact Wb.map_nums _
    obtain ⟨sj, g1, g2⟩ := hg (t - R.length)
    have h5 : said (first 7) ((R ++ B).take t) = some sj := by
      rw [List.take_append, List.take_of_length_le hXt, said_append, hs]
      exact g1
    refine ⟨_, t - R.length, sj, rfl, ?_, by rw [h4]; exact h5, by rw [List.length_append] at ht; omega, g1⟩
    unfold openE
    rw [if_neg (by decide), if_neg (by rw [h1]; decide), h4, h5]
    show (if rb sj = true then (0 : Int) else 2) = 0
    rw [if_pos g2]
end Sto
end Go.Proofs.Ytekmjhenhgmpgaa

/- The document's records of a store, further: a cut, an entry, a snapshot. -/
namespace Go.Proofs.Ytekmjhenhgmpgaa
open Go.RowKit
set_option maxRecDepth 100000

set_option maxHeartbeats 1000000 in
theorem rcut8_at (w : World) (i : Nat) (hi : i < 18446744073709551616) :
    Calls Try.prog 53 #[.int .u64 i] w fun e w' => e = .returned (.string (Sto.cutB i)) ∧ Only NoBlock w w' := by
  go_enter Try.func53, Try.ntmps53
  have HEQ : RowKit.Hid (textOf (numsB [3, i]) = Sto.cutB i) := Lib.hid (by unfold numsB Sto.cutB Rc.cut; simp)
  go_wp2_with fail
  have hrow := u64s_made w [3, i] 23 (by simp) (by intro y hy; simp at hy; rcases hy with rfl | rfl <;> omega)
  refine (rnums_as hrow rfl HEQ.out).mono ?_
  rintro e w2 ⟨rfl, hO⟩
  go_wp2_with fail
  go_ret
  exact ⟨rfl, ((Only.refl NoBlock w).alloc _).trans hO⟩

set_option maxHeartbeats 2000000 in
theorem rent8_at (w : World) (et ei : Nat) (ek : Int) (ed : ByteArray) (he : (⟨et, ei, ek, ed⟩ : Ent).Wf) (hd : ed.size ≤ 1000000000) :
    Calls Try.prog 54 #[.agg #[.int .u64 et, .int .u64 ei, .int .i64 ek, .string ed]] w fun e w' => e = .returned (.string (Sto.entB ⟨et, ei, ek, ed⟩)) ∧ Only NoBlock w w' := by
  obtain ⟨h1, h2, h3, h4⟩ := he
  simp only at h1 h2 h3 h4
  have hconv : IntKind.u64.wrap ek = ((u64 ek : Nat) : Int) := by have := wf_both h3; rw [IntKind.wrap_u64]; unfold u64; omega
  have hx := u64_lt ek
  have hbx := Blk.made w #[.int .u64 et, .int .u64 ei, .int .i64 ek, .string ed] 77
  have hn := (Only.refl NoBlock w).alloc (Obj.cells #[.int .u64 et, .int .u64 ei, .int .i64 ek, .string ed] 77)
  go_enter Try.func54, Try.ntmps54
  go_upto_region 1 with fail
  generalize w.heap.size = X at hbx ⊢
  generalize w.alloc (Obj.cells #[.int .u64 et, .int .u64 ei, .int .i64 ek, .string ed] 77) = w1 at hbx hn ⊢
  have b0 : w1.cell? ⟨X, 0, none⟩ = some (.int .u64 et) := by rw [hbx.cell]; rfl
  have b1 : w1.cell? ⟨X, 1, none⟩ = some (.int .u64 ei) := by rw [hbx.cell]; rfl
  have b2 : w1.cell? ⟨X, 2, none⟩ = some (.int .i64 ek) := by rw [hbx.cell]; rfl
  have b3 : w1.cell? ⟨X, 3, none⟩ = some (.string ed) := by rw [hbx.cell]; rfl
  have HEQ : RowKit.Hid (textOf (numsB [2, et, ei, u64 ek]) ++ textOf (Pk.text (nums ed)) = Sto.entB ⟨et, ei, ek, ed⟩) := Lib.hid (by unfold numsB Sto.entB Rc.entry; rw [← textOf_append]; simp)
  have hz1 := numsB_len (l := [2, et, ei, u64 ek]) (by intro y hy; simp at hy; rcases hy with rfl | rfl | rfl | rfl <;> omega)
  have hz2 : (textOf (Pk.text (nums ed))).size ≤ 10 + ed.size := by
    rw [textOf_size]; unfold Pk.text; rw [List.length_append, nums_length]
    have := num_len (x := ed.size) (by omega)
    omega
  have hcat : (9223372036854775807 < (textOf (numsB [2, et, ei, u64 ek])).size + (textOf (Pk.text (nums ed))).size) = False := by rw [textOf_size]; simp at hz1 ⊢; omega
  have hrow := u64s_made w1 [2, et, ei, u64 ek] 23 (by simp) (by intro y hy; simp at hy; rcases hy with rfl | rfl | rfl | rfl <;> omega)
  have hrd : U64sIn (w1.alloc (Obj.cells #[.int .u64 2, .int .u64 et, .int .u64 ei, .int .u64 (u64 ek : Nat)] 23)).drew (some ⟨w1.heap.size, 0, none⟩) [2, et, ei, u64 ek] := hrow.keeps (S := NoBlock) (Only.refl _ _).drew (fun _ _ h => h)
  have hO1 : Only NoBlock w1 (w1.alloc (Obj.cells #[.int .u64 2, .int .u64 et, .int .u64 ei, .int .u64 (u64 ek : Nat)] 23)).drew := ((Only.refl NoBlock w1).alloc _).drew
  have nX := World.new_ne w1 ⟨X, 0, none⟩ b0
  clear hz1 hz2 hrow
  generalize u64 ek = x at *
  go_wp2_with fail
  go_region_held3 (fun w' => w'.cell? ⟨X, 0, none⟩ = some (.int .u64 et) ∧ w'.cell? ⟨X, 1, none⟩ = some (.int .u64 ei) ∧ w'.cell? ⟨X, 2, none⟩ = some (.int .i64 ek) ∧ w'.cell? ⟨X, 3, none⟩ = some (.string ed))
    (first | with_reducible exact ⟨b0, b1, b2, b3⟩ | go_keep)
    (first
     | (go_at_call 50; refine (rnums_as hrd rfl rfl).mono ?_; rintro e w2 ⟨rfl, hO2⟩; have hO2 := hO1.trans hO2; have hb2 := hbx.keeps hO2 (fun h => h)
        have b0 : w2.cell? ⟨X, 0, none⟩ = some (.int .u64 et) := by rw [hb2.cell]; rfl
        have b1 : w2.cell? ⟨X, 1, none⟩ = some (.int .u64 ei) := by rw [hb2.cell]; rfl
        have b2 : w2.cell? ⟨X, 2, none⟩ = some (.int .i64 ek) := by rw [hb2.cell]; rfl
        have b3 : w2.cell? ⟨X, 3, none⟩ = some (.string ed) := by rw [hb2.cell]; rfl)
     | (go_at_call 78; refine (dtext_at _ ed (by omega)).mono ?_; rintro e w3 ⟨rfl, hO3⟩; have hO3 := hO2.trans hO3; have hb3 := hbx.keeps hO3 (fun h => h)
        have b0 : w3.cell? ⟨X, 0, none⟩ = some (.int .u64 et) := by rw [hb3.cell]; rfl
        have b1 : w3.cell? ⟨X, 1, none⟩ = some (.int .u64 ei) := by rw [hb3.cell]; rfl
        have b2 : w3.cell? ⟨X, 2, none⟩ = some (.int .i64 ek) := by rw [hb3.cell]; rfl
        have b3 : w3.cell? ⟨X, 3, none⟩ = some (.string ed) := by rw [hb3.cell]; rfl))
  go_wp2_with fail
  go_ret
  exact ⟨by rw [← HEQ.out]; rfl, hn.trans hO3⟩

set_option maxHeartbeats 2000000 in
theorem rsnap8_at (w : World) (si st sc : Nat) (sd : ByteArray) (hs : (⟨si, st, sc, sd⟩ : Snp).Wf) (hd : sd.size ≤ 1000000000) :
    Calls Try.prog 57 #[.agg #[.int .u64 si, .int .u64 st, .int .u64 sc, .string sd]] w fun e w' => e = .returned (.string (Sto.snapB ⟨si, st, sc, sd⟩)) ∧ Only NoBlock w w' := by
  obtain ⟨h1, h2, h3, h4⟩ := hs
  simp only at h1 h2 h3 h4
  have hbx := Blk.made w #[.int .u64 si, .int .u64 st, .int .u64 sc, .string sd] 39
  have hn := (Only.refl NoBlock w).alloc (Obj.cells #[.int .u64 si, .int .u64 st, .int .u64 sc, .string sd] 39)
  go_enter Try.func57, Try.ntmps57
  go_upto_region 1 with fail
  generalize w.heap.size = X at hbx ⊢
  generalize w.alloc (Obj.cells #[.int .u64 si, .int .u64 st, .int .u64 sc, .string sd] 39) = w1 at hbx hn ⊢
  have b0 : w1.cell? ⟨X, 0, none⟩ = some (.int .u64 si) := by rw [hbx.cell]; rfl
  have b1 : w1.cell? ⟨X, 1, none⟩ = some (.int .u64 st) := by rw [hbx.cell]; rfl
  have b2 : w1.cell? ⟨X, 2, none⟩ = some (.int .u64 sc) := by rw [hbx.cell]; rfl
  have b3 : w1.cell? ⟨X, 3, none⟩ = some (.string sd) := by rw [hbx.cell]; rfl
  have HEQ : RowKit.Hid (textOf (numsB [4, si, st, sc]) ++ textOf (Pk.text (nums sd)) = Sto.snapB ⟨si, st, sc, sd⟩) := Lib.hid (by unfold numsB Sto.snapB Rc.snap; rw [← textOf_append]; simp)
  have hz1 := numsB_len (l := [4, si, st, sc]) (by intro y hy; simp at hy; rcases hy with rfl | rfl | rfl | rfl <;> omega)
  have hz2 : (textOf (Pk.text (nums sd))).size ≤ 10 + sd.size := by
    rw [textOf_size]; unfold Pk.text; rw [List.length_append, nums_length]
    have := num_len (x := sd.size) (by omega)
    omega
  have hcat : (9223372036854775807 < (textOf (numsB [4, si, st, sc])).size + (textOf (Pk.text (nums sd))).size) = False := by rw [textOf_size]; simp at hz1 ⊢; omega
  have hrow := u64s_made w1 [4, si, st, sc] 23 (by simp) (by intro y hy; simp at hy; rcases hy with rfl | rfl | rfl | rfl <;> omega)
  have hrd : U64sIn (w1.alloc (Obj.cells #[.int .u64 4, .int .u64 si, .int .u64 st, .int .u64 sc] 23)).drew (some ⟨w1.heap.size, 0, none⟩) [4, si, st, sc] := hrow.keeps (S := NoBlock) (Only.refl _ _).drew (fun _ _ h => h)
  have hO1 : Only NoBlock w1 (w1.alloc (Obj.cells #[.int .u64 4, .int .u64 si, .int .u64 st, .int .u64 sc] 23)).drew := ((Only.refl NoBlock w1).alloc _).drew
  have nX := World.new_ne w1 ⟨X, 0, none⟩ b0
  clear hz1 hz2 hrow
  go_wp2_with fail
  go_region_held3 (fun w' => w'.cell? ⟨X, 0, none⟩ = some (.int .u64 si) ∧ w'.cell? ⟨X, 1, none⟩ = some (.int .u64 st) ∧ w'.cell? ⟨X, 2, none⟩ = some (.int .u64 sc) ∧ w'.cell? ⟨X, 3, none⟩ = some (.string sd))
    (first | with_reducible exact ⟨b0, b1, b2, b3⟩ | go_keep)
    (first
     | (go_at_call 50; refine (rnums_as hrd rfl rfl).mono ?_; rintro e w2 ⟨rfl, hO2⟩; have hO2 := hO1.trans hO2; have hb2 := hbx.keeps hO2 (fun h => h)
        have b0 : w2.cell? ⟨X, 0, none⟩ = some (.int .u64 si) := by rw [hb2.cell]; rfl
        have b1 : w2.cell? ⟨X, 1, none⟩ = some (.int .u64 st) := by rw [hb2.cell]; rfl
        have b2 : w2.cell? ⟨X, 2, none⟩ = some (.int .u64 sc) := by rw [hb2.cell]; rfl
        have b3 : w2.cell? ⟨X, 3, none⟩ = some (.string sd) := by rw [hb2.cell]; rfl)
     | (go_at_call 78; refine (dtext_at _ sd (by omega)).mono ?_; rintro e w3 ⟨rfl, hO3⟩; have hO3 := hO2.trans hO3; have hb3 := hbx.keeps hO3 (fun h => h)
        have b0 : w3.cell? ⟨X, 0, none⟩ = some (.int .u64 si) := by rw [hb3.cell]; rfl
        have b1 : w3.cell? ⟨X, 1, none⟩ = some (.int .u64 st) := by rw [hb3.cell]; rfl
        have b2 : w3.cell? ⟨X, 2, none⟩ = some (.int .u64 sc) := by rw [hb3.cell]; rfl
        have b3 : w3.cell? ⟨X, 3, none⟩ = some (.string sd) := by rw [hb3.cell]; rfl))
  go_wp2_with fail
  go_ret
  exact ⟨by rw [← HEQ.out]; rfl, hn.trans hO3⟩
end Go.Proofs.Ytekmjhenhgmpgaa

/- The document's Records: what Save writes, and the state behind it. -/
namespace Go.Proofs.Ytekmjhenhgmpgaa
open Go.RowKit
set_option maxRecDepth 100000

/-- what Records answers: the records Z, and what they make of the state s -/
def RRecsEnd (Z : List ByteArray) (s : St) (n : Nat) (w : World) (e : Ending) (w' : World) : Prop :=
  ∃ (ok : Bool) (s' : St) (v : Value) (ao : Option Addr) (cap : Nat), e = .returned (.tuple #[v, .agg (stCells s'.hard s'.snap (.slice ao s'.es.length cap)), .bool ok]) ∧ EntsIn w' ao s'.es ∧ Only NoBlock w w' ∧ Sto.rightO (Sto.said s Z) = (if ok = true then some s' else none) ∧ (ok = true → Strs w' w.heap.size v Z) ∧ s'.hard.Wf ∧ s'.snap.Wf ∧ s'.es.length ≤ s.es.length + n

set_option maxHeartbeats 8000000 in
theorem rrecs8_raw (w : World) (t0 : Nat) (v0 : Int) (si st sc : Nat) (sd : ByteArray) (es : List Ent) (ao : Option Addr) (cap : Nat) (ht : Nat) (hv : Int) (aoL : Option Addr) (capL : Nat) (l : List Ent)
    (hh : (⟨ht, hv⟩ : Hrd).Wf) (hsh : (⟨t0, v0⟩ : Hrd).Wf) (hss : (⟨si, st, sc, sd⟩ : Snp).Wf) (hin : EntsIn w ao es) (hel : es.length ≤ 100000000) (hed : ∀ e ∈ es, e.data.size ≤ 65536) (hl : EntsIn w aoL l) (hll : l.length ≤ 100000000) (hld : ∀ e ∈ l, e.data.size ≤ 1000000000) (hsz : (Wal.text (Sto.out ⟨⟨t0, v0⟩, ⟨si, st, sc, sd⟩, es⟩ ⟨ht, hv⟩ l)).size ≤ 1000000000) :
    Calls Try.prog 25 #[.agg #[.int .u64 t0, .int .i64 v0, .int .u64 si, .int .u64 st, .int .u64 sc, .string sd, .slice ao es.length cap], .agg #[.int .u64 ht, .int .i64 hv], .slice aoL l.length capL] w (RRecsEnd (Sto.out ⟨⟨t0, v0⟩, ⟨si, st, sc, sd⟩, es⟩ ⟨ht, hv⟩ l) ⟨⟨t0, v0⟩, ⟨si, st, sc, sd⟩, es⟩ (2 + l.length) w) := by
  generalize hZd : Sto.out ⟨⟨t0, v0⟩, ⟨si, st, sc, sd⟩, es⟩ ⟨ht, hv⟩ l = Z at hsz ⊢
  have HZQ := Lib.hid hZd
  clear hZd
  generalize hSd : (⟨⟨t0, v0⟩, ⟨si, st, sc, sd⟩, es⟩ : St) = s0 at ⊢
  have HSQ := Lib.hid hSd
  clear hSd
  have a1 := Blk.made w #[.int .u64 t0, .int .i64 v0, .int .u64 si, .int .u64 st, .int .u64 sc, .string sd, .slice ao es.length cap] 50
  have o1 := (Only.refl NoBlock w).alloc (Obj.cells #[.int .u64 t0, .int .i64 v0, .int .u64 si, .int .u64 st, .int .u64 sc, .string sd, .slice ao es.length cap] 50)
  have z1 : (w.alloc (Obj.cells #[.int .u64 t0, .int .i64 v0, .int .u64 si, .int .u64 st, .int .u64 sc, .string sd, .slice ao es.length cap] 50)).heap.size = w.heap.size + 1 := by simp
  have a2 := Blk.made (w.alloc (Obj.cells #[.int .u64 t0, .int .i64 v0, .int .u64 si, .int .u64 st, .int .u64 sc, .string sd, .slice ao es.length cap] 50)) #[.int .u64 ht, .int .i64 hv] 37
  have o2 := (Only.refl NoBlock (w.alloc (Obj.cells #[.int .u64 t0, .int .i64 v0, .int .u64 si, .int .u64 st, .int .u64 sc, .string sd, .slice ao es.length cap] 50))).alloc (Obj.cells #[.int .u64 ht, .int .i64 hv] 37)
  have z2 : ((w.alloc (Obj.cells #[.int .u64 t0, .int .i64 v0, .int .u64 si, .int .u64 st, .int .u64 sc, .string sd, .slice ao es.length cap] 50)).alloc (Obj.cells #[.int .u64 ht, .int .i64 hv] 37)).heap.size = w.heap.size + 2 := by simp
  have a3 := Blk.made ((w.alloc (Obj.cells #[.int .u64 t0, .int .i64 v0, .int .u64 si, .int .u64 st, .int .u64 sc, .string sd, .slice ao es.length cap] 50)).alloc (Obj.cells #[.int .u64 ht, .int .i64 hv] 37)) #[.int .u64 0, .int .i64 0, .int .u64 0, .int .u64 0, .int .u64 0, .string { data := #[] }, .slice none 0 0] 50
  have o3 := (Only.refl NoBlock ((w.alloc (Obj.cells #[.int .u64 t0, .int .i64 v0, .int .u64 si, .int .u64 st, .int .u64 sc, .string sd, .slice ao es.length cap] 50)).alloc (Obj.cells #[.int .u64 ht, .int .i64 hv] 37))).alloc (Obj.cells #[.int .u64 0, .int .i64 0, .int .u64 0, .int .u64 0, .int .u64 0, .string { data := #[] }, .slice none 0 0] 50)
  have bS := (a1.keeps o2 (fun h => h)).keeps o3 (fun h => h)
  have bH := a2.keeps o3 (fun h => h)
  have hn := (o1.trans o2).trans o3
  rw [z1] at bH
  rw [z2] at a3
  clear a1 a2 o1 o2 o3 z1 z2
  go_enter Try.func25, Try.ntmps25
  go_upto_region 1 with fail
  generalize (Value.agg #[.int .u64 t0, .int .i64 v0, .int .u64 si, .int .u64 st, .int .u64 sc, .string sd, .slice ao es.length cap]) = va
  obtain ⟨S, hS⟩ : ∃ S, w.heap.size = S := ⟨_, rfl⟩
  have hwS : w.heap.size ≤ S := by omega
  rw [hS] at bS bH a3 ⊢
  clear hS
  generalize ((w.alloc (Obj.cells #[.int .u64 t0, .int .i64 v0, .int .u64 si, .int .u64 st, .int .u64 sc, .string sd, .slice ao es.length cap] 50)).alloc (Obj.cells #[.int .u64 ht, .int .i64 hv] 37)).alloc (Obj.cells #[.int .u64 0, .int .i64 0, .int .u64 0, .int .u64 0, .int .u64 0, .string { data := #[] }, .slice none 0 0] 50) = w1 at bS bH a3 hn ⊢
  have hSR : S < S + 2 := by omega
  generalize S + 2 = R at a3 hSR ⊢
  generalize S + 1 = H at bH ⊢
  have c0 : w1.cell? ⟨S, 0, none⟩ = some (.int .u64 t0) := by rw [bS.cell]; rfl
  have c1 : w1.cell? ⟨S, 1, none⟩ = some (.int .i64 v0) := by rw [bS.cell]; rfl
  have x0 : w1.cell? ⟨H, 0, none⟩ = some (.int .u64 ht) := by rw [bH.cell]; rfl
  have x1 : w1.cell? ⟨H, 1, none⟩ = some (.int .i64 hv) := by rw [bH.cell]; rfl
  have HQ : RowKit.Hid (Sto.out0 ⟨⟨t0, v0⟩, ⟨si, st, sc, sd⟩, es⟩ ⟨ht, hv⟩ = if decide (ht = t0 ∧ hv = v0) = true then [] else [Sto.hardB ⟨ht, hv⟩]) := Lib.hid (by unfold Sto.out0; simp only [decide_eq_true_eq])
  generalize hqd : decide (ht = t0 ∧ hv = v0) = q at HQ
  have HQD := Lib.hid hqd
  clear hqd
  have HSHW := Lib.hid hsh
  have HSSW := Lib.hid hss
  have HED := Lib.hid hed
  clear hsh hss hed
  go_upto_if 18 with (first
    | (refine wpList_neq_hard w1 rfl _ _ rfl ht t0 hv v0 rfl rfl ?_; rw [HQD.out]; simp only [Act.put, List.setIfInBounds_toArray, List.set_cons_zero, List.set_cons_succ]))
  go_cut [9] (fun v9 wx => ∃ X, Strs wx w.heap.size v9 X ∧ RowKit.Hid (X = Sto.out0 ⟨⟨t0, v0⟩, ⟨si, st, sc, sd⟩, es⟩ ⟨ht, hv⟩) ∧ X.length ≤ 1 ∧ Blk wx S #[.int .u64 t0, .int .i64 v0, .int .u64 si, .int .u64 st, .int .u64 sc, .string sd, .slice ao es.length cap] 50 ∧ Blk wx R #[.int .u64 0, .int .i64 0, .int .u64 0, .int .u64 0, .int .u64 0, .string { data := #[] }, .slice none 0 0] 50 ∧ Only NoBlock w wx)
  case first =>
    cases q with
    | true =>
      rw [if_pos rfl] at HQ
      go_wp2_with fail
      go_meet
      exact ⟨[], Strs.nil _ _, Lib.hid HQ.out.symm, by simp, bS, a3, hn⟩
    | false =>
      rw [if_neg (by decide)] at HQ
      go_wp2_with fail
      refine (rhard8_at w1 ⟨ht, hv⟩ hh).mono ?_
      rintro e w4 ⟨rfl, hO4⟩
      have bS4 := bS.keeps hO4 (fun h => h)
      have bR4 := a3.keeps hO4 (fun h => h)
      have hn4 := hn.trans hO4
      have hz4 := hn4.size
      go_wp2_with (first
        | (at_builtin; refine wpList_append_str _ rfl _ _ rfl w.heap.size (.slice none 0 0) [] (Sto.hardB ⟨ht, hv⟩) ⟨w4.heap.size, 0, none⟩ 1 rfl (Strs.nil _ _) rfl (cell_str _ _ _ _ rfl) (by decide) (by simp; omega) ?_; intro v5 w5 hs5 hg5))
      go_meet
      have hA4 := (Only.refl NoBlock w4).alloc (Obj.cells #[.string (Sto.hardB ⟨ht, hv⟩)] 9)
      exact ⟨_, hs5, Lib.hid HQ.out.symm, by simp, (bS4.keeps hA4 (fun h => h)).keeps (Only.of_grown hg5) (fun e => by cases e), (bR4.keeps hA4 (fun h => h)).keeps (Only.of_grown hg5) (fun e => by cases e), (hn4.trans hA4).grown hg5 (fun k hk => by cases hk)⟩
  case rest =>
    obtain ⟨X, hX, HX, hXl, bS4, bR4, hn4⟩ := hcut
    clear c0 c1 x0 x1 bS bH a3 hn HQ
    rename_i v9 wc
    have c2 : wc.cell? ⟨S, 2, none⟩ = some (.int .u64 si) := by rw [bS4.cell]; rfl
    have c6 : wc.cell? ⟨S, 6, none⟩ = some (.slice ao es.length cap) := by rw [bS4.cell]; rfl
    go_upto_if 30 with (fail)
    go_cut [10] (fun v10 wx => v10 = .int .u64 (Rl.lastI ⟨si, st, sc, sd⟩ es : Nat) ∧ wx = wc)
    case first =>
      by_cases hp : 0 < es.length
      · have hlast := getLast_getD hp
        have HI : RowKit.Hid (Rl.lastI ⟨si, st, sc, sd⟩ es = (es.getD (es.length - 1) Ent.zero).index) := Lib.hid (by unfold Rl.lastI; rw [hlast])
        obtain ⟨b, off, rfl, -, e1, -, -⟩ := (hin.keeps hn4 (fun _ _ h => h)).cell (es.length - 1) (by omega)
        obtain ⟨n, hn1⟩ : ∃ n, es.length = n + 1 := ⟨es.length - 1, by omega⟩
        rw [hn1] at c6 e1 HI hel ⊢
        rw [Nat.add_sub_cancel] at e1 HI
        generalize es.getD n Ent.zero = x at e1 HI
        clear hlast hp hn1
        go_wp2_with fail
        go_meet
        exact ⟨by rw [HI.out], rfl⟩
      · obtain rfl : es = [] := List.length_eq_zero_iff.1 (by omega)
        go_wp2_with fail
        go_meet
        exact ⟨rfl, rfl⟩
    case rest =>
      obtain ⟨rfl, rfl⟩ := hcut
      have ho1 : Sto.out1 ⟨⟨t0, v0⟩, ⟨si, st, sc, sd⟩, es⟩ l = if decide (0 < l.length ∧ (l.getD 0 Ent.zero).index ≤ Rl.lastI ⟨si, st, sc, sd⟩ es) = true then [Sto.cutB (l.getD 0 Ent.zero).index] else [] := by unfold Sto.out1; simp only [decide_eq_true_eq]
      have HO := Lib.hid ho1
      clear ho1 c2 c6
      generalize Rl.lastI ⟨si, st, sc, sd⟩ es = li at HO ⊢
      generalize hq2 : decide (0 < l.length ∧ (l.getD 0 Ent.zero).index ≤ li) = q2 at HO
      have HQ2 := Lib.hid hq2
      clear hq2
      go_upto_region 7 with (fail)
      go_cut [50] (fun v50 wx => v50 = .bool q2 ∧ wx = wc)
      case first =>
        by_cases hl0 : 0 < l.length
        · obtain ⟨bb, off, rfl, -, e1, -, -⟩ := (hl.keeps hn4 (fun _ _ h => h)).cell 0 hl0
          simp only [Nat.zero_mul, Nat.add_zero, Nat.zero_add] at e1
          have hqe : q2 = decide ((l.getD 0 Ent.zero).index ≤ li) := by rw [← HQ2.out]; simp [hl0]
          have HQE := Lib.hid hqe
          clear hqe
          generalize (l.getD 0 Ent.zero).index = y at e1 HQE
          go_wp2_with fail
          go_meet
          exact ⟨by rw [HQE.out], rfl⟩
        · have hqe : q2 = false := by rw [← HQ2.out]; simp [hl0]
          have HQE := Lib.hid hqe
          clear hqe
          go_wp2_with fail
          go_meet
          exact ⟨by rw [HQE.out], rfl⟩
      case rest =>
       obtain ⟨rfl, rfl⟩ := hcut
       go_upto_if 50 with (fail)
       go_cut [9] (fun v9 wx => ∃ Y, Strs wx w.heap.size v9 (X ++ Y) ∧ RowKit.Hid (Y = Sto.out1 ⟨⟨t0, v0⟩, ⟨si, st, sc, sd⟩, es⟩ l) ∧ Y.length ≤ 1 ∧ Blk wx S #[.int .u64 t0, .int .i64 v0, .int .u64 si, .int .u64 st, .int .u64 sc, .string sd, .slice ao es.length cap] 50 ∧ Blk wx R #[.int .u64 0, .int .i64 0, .int .u64 0, .int .u64 0, .int .u64 0, .string { data := #[] }, .slice none 0 0] 50 ∧ Only NoBlock w wx)
       case first =>
        cases q2 with
        | true =>
          have hl0 : 0 < l.length := (of_decide_eq_true HQ2.out).1
          obtain ⟨bb, off, rfl, -, e1, -, -⟩ := (hl.keeps hn4 (fun _ _ h => h)).cell 0 hl0
          simp only [Nat.zero_mul, Nat.add_zero, Nat.zero_add] at e1
          have hyw : (l.getD 0 Ent.zero).index < 18446744073709551616 := (hl.at_wf hl0).index
          rw [if_pos rfl] at HO
          clear HQ2
          generalize (l.getD 0 Ent.zero).index = y at e1 HO hyw
          go_wp2_with fail
          refine (rcut8_at _ y hyw).mono ?_
          rintro e w6 ⟨rfl, hO6⟩
          have bS6 := bS4.keeps hO6 (fun h => h)
          have bR6 := bR4.keeps hO6 (fun h => h)
          have hn6 := hn4.trans hO6
          have hX6 := hX.keeps hO6 (fun _ _ h => h)
          have hz6 := hn6.size
          have hA6 := (Only.refl NoBlock w6).alloc (Obj.cells #[.string (Sto.cutB y)] 9)
          go_wp2_with (first
            | (at_builtin; refine wpList_append_str _ rfl _ _ rfl w.heap.size _ X (Sto.cutB y) ⟨w6.heap.size, 0, none⟩ 1 rfl (hX6.keeps hA6 (fun _ _ h => h)) rfl (cell_str _ _ _ _ rfl) (by omega) (by simp; omega) ?_; intro v7 w7 hs7 hg7))
          go_meet
          have hX7 := hX6.keeps hA6 (fun _ _ h => h)
          have bS7 := bS6.keeps hA6 (fun h => h)
          have bR7 := bR6.keeps hA6 (fun h => h)
          exact ⟨_, hs7, Lib.hid HO.out.symm, by simp, bS7.keeps (Only.of_grown hg7) (fun e => hX7.apart bS7 (by decide) e), bR7.keeps (Only.of_grown hg7) (fun e => hX7.apart bR7 (by decide) e), (hn6.trans hA6).grown hg7 (fun k hk hl => absurd (World.ownsRow.lt hX6 k hk).1 (by omega))⟩
        | false =>
          rw [if_neg (by decide)] at HO
          go_wp2_with fail
          go_meet
          exact ⟨[], by rw [List.append_nil]; exact hX, Lib.hid HO.out.symm, by simp, bS4, bR4, hn4⟩
       case rest =>
        obtain ⟨Y, hY, HY, hYl, bS5, bR5, hn5⟩ := hcut
        clear hX bS4 bR4 hn4 HO
        rename_i v9b wc2
        have HXY : RowKit.Hid (Sto.out ⟨⟨t0, v0⟩, ⟨si, st, sc, sd⟩, es⟩ ⟨ht, hv⟩ l = X ++ Y ++ l.map Sto.entB) := Lib.hid (by unfold Sto.out; rw [HX.out, HY.out])
        go_wp2_with fail
        go_loopw [9, 11] (fun u9 u11 wr => ∃ k : Nat, k ≤ l.length ∧ u11 = .int .i64 k ∧ Strs wr w.heap.size u9 (X ++ Y ++ (l.take k).map Sto.entB) ∧ Blk wr S #[.int .u64 t0, .int .i64 v0, .int .u64 si, .int .u64 st, .int .u64 sc, .string sd, .slice ao es.length cap] 50 ∧ Blk wr R #[.int .u64 0, .int .i64 0, .int .u64 0, .int .u64 0, .int .u64 0, .string { data := #[] }, .slice none 0 0] 50 ∧ Only NoBlock w wr) (fun _ u11 _ => l.length - (intOf u11).toNat)
        case atStart => exact ⟨0, by omega, rfl, by simpa using hY, bS5, bR5, hn5⟩
        case round =>
          clear hY bS5 bR5 hn5
          obtain ⟨k, hk, rfl, hR, bS6, bR6, hn6⟩ := hrel
          by_cases hlt : k < l.length
          · obtain ⟨bb, off, rfl, e0, e1, e2, e3⟩ := (hl.keeps hn6 (fun _ _ h => h)).cell k hlt
            have hwf := hl.at_wf hlt
            have hdk : (l.getD k Ent.zero).data.size ≤ 1000000000 := by
              rw [List.getD_eq_getElem?_getD, List.getElem?_eq_getElem hlt]
              exact hld _ (List.getElem_mem hlt)
            have hts : (l.take (k + 1)).map Sto.entB = (l.take k).map Sto.entB ++ [Sto.entB (l.getD k Ent.zero)] := by
              rw [List.take_add_one, List.getElem?_eq_getElem hlt, List.getD_eq_getElem?_getD, List.getElem?_eq_getElem hlt, List.map_append]; rfl
            have HTS := Lib.hid hts
            have hlk : (X ++ Y ++ (l.take k).map Sto.entB).length ≤ 2 + k := by simp; omega
            clear hts
            generalize l.getD k Ent.zero = en at e0 e1 e2 e3 hwf hdk HTS
            obtain ⟨et, ei, ek, ed⟩ := en
            have HWF := Lib.hid hwf
            clear hwf
            simp only at e0 e1 e2 e3 hdk
            go_wp2_with fail
            refine (rent8_at wr et ei ek ed HWF.out hdk).mono ?_
            rintro e w7 ⟨rfl, hO7⟩
            have bS7 := bS6.keeps hO7 (fun h => h)
            have bR7 := bR6.keeps hO7 (fun h => h)
            have hn7 := hn6.trans hO7
            have hR7 := hR.keeps hO7 (fun _ _ h => h)
            have hz7 := hn7.size
            have hA7 := (Only.refl NoBlock w7).alloc (Obj.cells #[.string (Sto.entB ⟨et, ei, ek, ed⟩)] 9)
            clear hR bS6 bR6 hn6 hO7 e0 e1 e2 e3
            go_wp2_with (first
              | (at_builtin; refine wpList_append_str _ rfl _ _ rfl w.heap.size _ (X ++ Y ++ (l.take k).map Sto.entB) (Sto.entB ⟨et, ei, ek, ed⟩) ⟨w7.heap.size, 0, none⟩ 1 rfl (hR7.keeps hA7 (fun _ _ h => h)) rfl (cell_str _ _ _ _ rfl) (by omega) (by simp; omega) ?_; intro v8 w8 hs8 hg8))
            have hR8 := hR7.keeps hA7 (fun _ _ h => h)
            have bS8 := bS7.keeps hA7 (fun h => h)
            have bR8 := bR7.keeps hA7 (fun h => h)
            go_roundw
            case rel =>
              refine ⟨k + 1, by omega, by go_num, ?_, bS8.keeps (Only.of_grown hg8) (fun e => hR8.apart bS8 (by decide) e), bR8.keeps (Only.of_grown hg8) (fun e => hR8.apart bR8 (by decide) e), (hn7.trans hA7).grown hg8 (fun k hk hl => absurd (World.ownsRow.lt hR7 k hk).1 (by omega))⟩
              rw [HTS.out, ← List.append_assoc]
              exact hs8
            case measure => simp [intOf]; omega
          · obtain rfl : k = l.length := by omega
            rw [List.take_length, ← HXY.out, HZQ.out] at hR
            have hZl : Z.length ≤ 2 + l.length := by rw [← HZQ.out, HXY.out]; simp; omega
            have hou : ∀ b ∈ Z, b.size ≤ 1000000000 := by
              intro b hb
              obtain ⟨i, hi, rfl⟩ := List.mem_iff_getElem.1 hb
              have := Wal.frame_in hi
              rw [List.getD_eq_getElem?_getD, List.getElem?_eq_getElem hi] at this
              exact Nat.le_trans this hsz
            have hinS := hin.keeps hn6 (fun _ _ h => h)
            have bS7 : Blk wr S (stCells s0.hard s0.snap (.slice ao s0.es.length cap)) 50 := by rw [← HSQ.out]; exact bS6
            have hin7 : EntsIn wr ao s0.es := by rw [← HSQ.out]; exact hinS
            have hh7 : s0.hard.Wf := by rw [← HSQ.out]; exact HSHW.out
            have hs7 : s0.snap.Wf := by rw [← HSQ.out]; exact HSSW.out
            have hdS : ∀ e ∈ s0.es, e.data.size ≤ 65536 := by rw [← HSQ.out]; exact HED.out
            have hzS : s0.es.length = es.length := by rw [← HSQ.out]
            have HZN : RowKit.Hid (∀ b ∈ Z, b.size ≤ 1000000000000) := Lib.hid (fun b hb => Nat.le_trans (hou b hb) (by decide))
            obtain ⟨N0, hN0⟩ : ∃ N0, es.length = N0 := ⟨_, rfl⟩
            rw [hN0] at hzS hel
            have hzS2 := Lib.hid hzS
            have HDS := Lib.hid hdS
            clear hou hsz HXY HX HY bS6 hinS HED HSHW HSSW hin hdS hzS hN0 HZQ HSQ
            obtain ⟨az, cz, rfl⟩ := hR.shape
            go_wp2_with fail
            go_loopw [12] (fun u7 wr => ∃ (k : Nat) (s : St) (ao : Option Addr) (cap : Nat), k ≤ Z.length ∧ u7 = .int .i64 k ∧ RowKit.Hid (Sto.said s0 (Z.take k) = some s) ∧ Blk wr S (stCells s.hard s.snap (.slice ao s.es.length cap)) 50 ∧ EntsIn wr ao s.es ∧ Blk wr R #[.int .u64 0, .int .i64 0, .int .u64 0, .int .u64 0, .int .u64 0, .string { data := #[] }, .slice none 0 0] 50 ∧ Only NoBlock w wr ∧ s.hard.Wf ∧ s.snap.Wf ∧ s.es.length ≤ N0 + k ∧ Strs wr w.heap.size (.slice az Z.length cz) Z) (fun u7 _ => Z.length - (intOf u7).toNat)
            case atStart => exact ⟨0, s0, ao, cap, by omega, rfl, Lib.hid rfl, bS7, hin7, bR6, hn6, hh7, hs7, by rw [hzS2.out]; omega, hR⟩
            case round =>
              clear bS7 hin7 bR6 hn6 hh7 hs7 hR
              obtain ⟨k, s, ao, cap, hk, rfl, HS, hS4, hl4, hr4, hn4, hh4, hs4, hle4, hR4⟩ := hrel
              obtain ⟨⟨ht, hv⟩, ⟨si, st, sc, sd⟩, es⟩ := s
              have hle4' : es.length ≤ N0 + k := hle4
              have hl4' : EntsIn wr ao es := hl4
              have hS5 := hS4
              simp only [stCells] at hS5
              obtain ⟨fs, hfs⟩ := u_rstate
              have HFS := Lib.hid hfs
              clear hfs hle4 hl4
              have c0 : wr.cell? ⟨S, 0, none⟩ = some (.int .u64 ht) := by rw [hS5.cell]; rfl
              have c1 : wr.cell? ⟨S, 1, none⟩ = some (.int .i64 hv) := by rw [hS5.cell]; rfl
              have c2 : wr.cell? ⟨S, 2, none⟩ = some (.int .u64 si) := by rw [hS5.cell]; rfl
              have c3 : wr.cell? ⟨S, 3, none⟩ = some (.int .u64 st) := by rw [hS5.cell]; rfl
              have c4 : wr.cell? ⟨S, 4, none⟩ = some (.int .u64 sc) := by rw [hS5.cell]; rfl
              have c5 : wr.cell? ⟨S, 5, none⟩ = some (.string sd) := by rw [hS5.cell]; rfl
              have c6 : wr.cell? ⟨S, 6, none⟩ = some (.slice ao es.length cap) := by rw [hS5.cell]; rfl
              by_cases hlt : k < Z.length
              · obtain ⟨bz, oz, rfl, cz0⟩ := (hR4.read.1).at hlt
                have hbk : (Z.getD k ByteArray.empty).size ≤ 1000000000000 := by
                  rw [List.getD_eq_getElem?_getD, List.getElem?_eq_getElem hlt]
                  exact HZN.out _ (List.getElem_mem hlt)
                have hts := Wal.take_snoc hlt
                have hsn := Sto.said_snoc (Z.take k) s0 (Z.getD k ByteArray.empty)
                rw [← hts, HS.out] at hsn
                have HSN := Lib.hid hsn
                clear hsn hts
                generalize Z.getD k ByteArray.empty = bk at cz0 hbk HSN
                have nS := World.new_ne wr ⟨S, 0, none⟩ c0
                have nZ := World.new_ne wr ⟨bz, oz + k, none⟩ cz0
                have hO1 : Only NoBlock wr wr.drew := (Only.refl NoBlock wr).drew
                have hO2 : Only NoBlock wr (wr.alloc (Obj.cells #[.int .u64 0, .int .i64 0, .int .u64 0, .int .u64 0, .int .u64 0, .string { data := #[] }, .slice none 0 0] 50)).drew := ((Only.refl NoBlock wr).alloc _).drew
                have hI1 := hl4'.keeps hO1 (fun _ _ h => h)
                have hI2 := hl4'.keeps hO2 (fun _ _ h => h)
                have hT2 := Blk.drew (Blk.made wr #[.int .u64 0, .int .i64 0, .int .u64 0, .int .u64 0, .int .u64 0, .string { data := #[] }, .slice none 0 0] 50)
                go_wp2_with fail
                go_region_held3 (fun w' => w'.cell? ⟨S, 0, none⟩ = some (.int .u64 ht) ∧ w'.cell? ⟨S, 1, none⟩ = some (.int .i64 hv) ∧ w'.cell? ⟨S, 2, none⟩ = some (.int .u64 si) ∧ w'.cell? ⟨S, 3, none⟩ = some (.int .u64 st) ∧ w'.cell? ⟨S, 4, none⟩ = some (.int .u64 sc) ∧ w'.cell? ⟨S, 5, none⟩ = some (.string sd) ∧ w'.cell? ⟨S, 6, none⟩ = some (.slice ao es.length cap) ∧ w'.cell? ⟨bz, oz + k, none⟩ = some (.string bk))
                  (first | with_reducible exact ⟨c0, c1, c2, c3, c4, c5, c6, cz0⟩ | go_keep)
                   ((go_at_call 55; refine (rtake_raw _ ht hv si st sc sd es ao cap hh4 hs4 (by first | with_reducible exact hI1 | with_reducible exact hI2) (by omega) bk hbk).mono ?_; rintro e w7 ⟨ok, ⟨⟨ht', hv'⟩, ⟨si', st', sc', sd'⟩, es'⟩, ao', cap', rfl, hl7, hO7, HT7, hh7, hs7, hle7, -⟩; (try (with_reducible have hg7 : Only NoBlock wr.drew w7 := hO7)); (first | (clear hg7) | have hT7 := hT2.keeps hO7 (fun h => h)); have hO47 : Only NoBlock wr w7 := Only.trans (by first | with_reducible exact hO1 | with_reducible exact hO2) hO7; have hS7 := hS5.keeps hO47 (fun h => h); have hr7 := hr4.keeps hO47 (fun h => h); have hZ7 := hR4.keeps hO47 (fun _ _ h => h)
                     simp only [stCells]
                     have hw7 : Only NoBlock w w7 := hn4.trans hO47
                     have hc7 := cell_keep hO47 cz0
                     have c0 : w7.cell? ⟨S, 0, none⟩ = some (.int .u64 ht) := by rw [hS7.cell]; rfl
                     have c1 : w7.cell? ⟨S, 1, none⟩ = some (.int .i64 hv) := by rw [hS7.cell]; rfl
                     have c2 : w7.cell? ⟨S, 2, none⟩ = some (.int .u64 si) := by rw [hS7.cell]; rfl
                     have c3 : w7.cell? ⟨S, 3, none⟩ = some (.int .u64 st) := by rw [hS7.cell]; rfl
                     have c4 : w7.cell? ⟨S, 4, none⟩ = some (.int .u64 sc) := by rw [hS7.cell]; rfl
                     have c5 : w7.cell? ⟨S, 5, none⟩ = some (.string sd) := by rw [hS7.cell]; rfl
                     have c6 : w7.cell? ⟨S, 6, none⟩ = some (.slice ao es.length cap) := by rw [hS7.cell]; rfl
                     have cz0 := hc7
                     have hz7 := Blk.made w7 #[.int .u64 0, .int .i64 0, .int .u64 0, .int .u64 0, .int .u64 0, .string { data := #[] }, .slice none 0 0] 50
                     have y0 : (w7.alloc (Obj.cells #[.int .u64 0, .int .i64 0, .int .u64 0, .int .u64 0, .int .u64 0, .string { data := #[] }, .slice none 0 0] 50)).cell? ⟨w7.heap.size, 0, none⟩ = some (.int .u64 0) := by rw [hz7.cell]; rfl
                     have fy0 := hz7.free 0
                     have y1 : (w7.alloc (Obj.cells #[.int .u64 0, .int .i64 0, .int .u64 0, .int .u64 0, .int .u64 0, .string { data := #[] }, .slice none 0 0] 50)).cell? ⟨w7.heap.size, 1, none⟩ = some (.int .i64 0) := by rw [hz7.cell]; rfl
                     have fy1 := hz7.free 1
                     have y2 : (w7.alloc (Obj.cells #[.int .u64 0, .int .i64 0, .int .u64 0, .int .u64 0, .int .u64 0, .string { data := #[] }, .slice none 0 0] 50)).cell? ⟨w7.heap.size, 2, none⟩ = some (.int .u64 0) := by rw [hz7.cell]; rfl
                     have fy2 := hz7.free 2
                     have y3 : (w7.alloc (Obj.cells #[.int .u64 0, .int .i64 0, .int .u64 0, .int .u64 0, .int .u64 0, .string { data := #[] }, .slice none 0 0] 50)).cell? ⟨w7.heap.size, 3, none⟩ = some (.int .u64 0) := by rw [hz7.cell]; rfl
                     have fy3 := hz7.free 3
                     have y4 : (w7.alloc (Obj.cells #[.int .u64 0, .int .i64 0, .int .u64 0, .int .u64 0, .int .u64 0, .string { data := #[] }, .slice none 0 0] 50)).cell? ⟨w7.heap.size, 4, none⟩ = some (.int .u64 0) := by rw [hz7.cell]; rfl
                     have fy4 := hz7.free 4
                     have y5 : (w7.alloc (Obj.cells #[.int .u64 0, .int .i64 0, .int .u64 0, .int .u64 0, .int .u64 0, .string { data := #[] }, .slice none 0 0] 50)).cell? ⟨w7.heap.size, 5, none⟩ = some (.string { data := #[] }) := by rw [hz7.cell]; rfl
                     have fy5 := hz7.free 5
                     have y6 : (w7.alloc (Obj.cells #[.int .u64 0, .int .i64 0, .int .u64 0, .int .u64 0, .int .u64 0, .string { data := #[] }, .slice none 0 0] 50)).cell? ⟨w7.heap.size, 6, none⟩ = some (.slice none 0 0) := by rw [hz7.cell]; rfl
                     have fy6 := hz7.free 6
                     have n7 := World.new_ne w7 ⟨S, 0, none⟩ c0
                     have m7 := World.new_ne w7 ⟨bz, oz + k, none⟩ cz0
                     (try have t0 : w7.cell? ⟨wr.heap.size, 0, none⟩ = some (.int .u64 0) := by rw [hT7.cell]; rfl)
                     (try have ft0 := hT7.free 0)
                     (try have t1 : w7.cell? ⟨wr.heap.size, 1, none⟩ = some (.int .i64 0) := by rw [hT7.cell]; rfl)
                     (try have ft1 := hT7.free 1)
                     (try have t2 : w7.cell? ⟨wr.heap.size, 2, none⟩ = some (.int .u64 0) := by rw [hT7.cell]; rfl)
                     (try have ft2 := hT7.free 2)
                     (try have t3 : w7.cell? ⟨wr.heap.size, 3, none⟩ = some (.int .u64 0) := by rw [hT7.cell]; rfl)
                     (try have ft3 := hT7.free 3)
                     (try have t4 : w7.cell? ⟨wr.heap.size, 4, none⟩ = some (.int .u64 0) := by rw [hT7.cell]; rfl)
                     (try have ft4 := hT7.free 4)
                     (try have t5 : w7.cell? ⟨wr.heap.size, 5, none⟩ = some (.string { data := #[] }) := by rw [hT7.cell]; rfl)
                     (try have ft5 := hT7.free 5)
                     (try have t6 : w7.cell? ⟨wr.heap.size, 6, none⟩ = some (.slice none 0 0) := by rw [hT7.cell]; rfl)
                     (try have ft6 := hT7.free 6)))
                · have hAl := (Only.refl NoBlock w7).alloc (Obj.cells #[.int .u64 ht', .int .i64 hv', .int .u64 si', .int .u64 st', .int .u64 sc', .string sd', .slice ao' es'.length cap'] 50)
                  have hTF := Blk.made w7 #[.int .u64 ht', .int .i64 hv', .int .u64 si', .int .u64 st', .int .u64 sc', .string sd', .slice ao' es'.length cap'] 50
                  have hne1 : S < w7.heap.size := hS7.lt
                  have hne2 : R < w7.heap.size := hr7.lt
                  have hSF := hS7.keeps hAl (fun h => h)
                  have hrF := hr7.keeps hAl (fun h => h)
                  have hlF := hl7.keeps hAl (fun _ _ h => h)
                  have hnF := hw7.trans hAl
                  have hZF := hZ7.keeps hAl (fun _ _ h => h)
                  have hTF' : Blk (w7.alloc (Obj.cells #[.int .u64 ht', .int .i64 hv', .int .u64 si', .int .u64 st', .int .u64 sc', .string sd', .slice ao' es'.length cap'] 50)) w7.heap.size #[.int .u64 ht', .int .i64 hv', .int .u64 si', .int .u64 st', .int .u64 sc', .string sd', .slice ao' es'.length cap'] 50 := hTF
                  have hSF' : Blk (w7.alloc (Obj.cells #[.int .u64 ht', .int .i64 hv', .int .u64 si', .int .u64 st', .int .u64 sc', .string sd', .slice ao' es'.length cap'] 50)) S #[.int .u64 ht, .int .i64 hv, .int .u64 si, .int .u64 st, .int .u64 sc, .string sd, .slice ao es.length cap] 50 := hSF
                  have hrF' : Blk (w7.alloc (Obj.cells #[.int .u64 ht', .int .i64 hv', .int .u64 si', .int .u64 st', .int .u64 sc', .string sd', .slice ao' es'.length cap'] 50)) R #[.int .u64 0, .int .i64 0, .int .u64 0, .int .u64 0, .int .u64 0, .string { data := #[] }, .slice none 0 0] 50 := hrF
                  have hlF' : EntsIn (w7.alloc (Obj.cells #[.int .u64 ht', .int .i64 hv', .int .u64 si', .int .u64 st', .int .u64 sc', .string sd', .slice ao' es'.length cap'] 50)) ao' es' := hlF
                  have hnF' : Only NoBlock w (w7.alloc (Obj.cells #[.int .u64 ht', .int .i64 hv', .int .u64 si', .int .u64 st', .int .u64 sc', .string sd', .slice ao' es'.length cap'] 50)) := hnF
                  have hZF' : Strs (w7.alloc (Obj.cells #[.int .u64 ht', .int .i64 hv', .int .u64 si', .int .u64 st', .int .u64 sc', .string sd', .slice ao' es'.length cap'] 50)) w.heap.size (.slice (some ⟨bz, oz, none⟩) Z.length cz) Z := hZF
                  generalize w7.alloc (Obj.cells #[.int .u64 ht', .int .i64 hv', .int .u64 si', .int .u64 st', .int .u64 sc', .string sd', .slice ao' es'.length cap'] 50) = wF at hTF' hSF' hrF' hlF' hnF' hZF' ⊢
                  have hTS : w7.heap.size ≠ S := by omega
                  generalize w7.heap.size = T at hTF' hTS ⊢
                  (try clear hvo)
                  clear hTF hSF hrF hlF hnF hZF hZ7 hR4
                  clear c0 c1 c2 c3 c4 c5 c6 y0 fy0 y1 fy1 y2 fy2 y3 fy3 y4 fy4 y5 fy5 y6 fy6 cz0 hz7
                  (try clear t0 ft0 t1 ft1 t2 ft2 t3 ft3 t4 ft4 t5 ft5 t6 ft6)
                  (try clear hO7)
                  (try clear hO47)
                  (try clear hS7)
                  (try clear hr7)
                  (try clear hl7)
                  (try clear hw7)
                  (try clear n7)
                  (try clear m7)
                  (try clear hc7)
                  (try clear hT7)
                  (try clear hI1)
                  (try clear hI2)
                  (try clear hO1)
                  (try clear hO2)
                  (try clear hT2)
                  (try clear nS)
                  (try clear nZ)
                  (try clear hS5)
                  (try clear hS4)
                  (try clear hr4)
                  (try clear hl4')
                  (try clear hAl)
                  have hle8 : es'.length ≤ es.length + 1 := hle7
                  have HH7 : RowKit.Hid ((⟨ht', hv'⟩ : Hrd).Wf) := Lib.hid hh7
                  have HS7 : RowKit.Hid ((⟨si', st', sc', sd'⟩ : Snp).Wf) := Lib.hid hs7
                  clear hle7 hh7 hs7
                  cases ok with
                  | false =>
                    have hno : Sto.rightO (Sto.said s0 Z) = none := by rw [Sto.said_none Z (k + 1) _ (HSN.out.trans HT7)]; rfl
                    have HNO := Lib.hid hno
                    clear hno HSN HT7
                    have q0 : wF.cell? ⟨R, 0, none⟩ = some (.int .u64 0) := by rw [hrF'.cell]; rfl
                    have fq0 := hrF'.free 0
                    have q1 : wF.cell? ⟨R, 1, none⟩ = some (.int .i64 0) := by rw [hrF'.cell]; rfl
                    have fq1 := hrF'.free 1
                    have q2 : wF.cell? ⟨R, 2, none⟩ = some (.int .u64 0) := by rw [hrF'.cell]; rfl
                    have fq2 := hrF'.free 2
                    have q3 : wF.cell? ⟨R, 3, none⟩ = some (.int .u64 0) := by rw [hrF'.cell]; rfl
                    have fq3 := hrF'.free 3
                    have q4 : wF.cell? ⟨R, 4, none⟩ = some (.int .u64 0) := by rw [hrF'.cell]; rfl
                    have fq4 := hrF'.free 4
                    have q5 : wF.cell? ⟨R, 5, none⟩ = some (.string { data := #[] }) := by rw [hrF'.cell]; rfl
                    have fq5 := hrF'.free 5
                    have q6 : wF.cell? ⟨R, 6, none⟩ = some (.slice none 0 0) := by rw [hrF'.cell]; rfl
                    have fq6 := hrF'.free 6
                    have hV := vset_blk8 hrF' (.int .u64 0) (.int .i64 0) (.int .u64 0) (.int .u64 0) (.int .u64 0) (.string { data := #[] }) (.slice none 0 0)
                    have hvo := vset_only wF R (.int .u64 0) (.int .i64 0) (.int .u64 0) (.int .u64 0) (.int .u64 0) (.string { data := #[] }) (.slice none 0 0)
                    have hn9 := hnF'.andThen hvo (fun k hk e => by have e' : k = R := e; omega)
                    go_wp2_with fail
                    (try simp only [Exit.inBlock, Exit.then])
                    refine bodyPost_ret (results_tmp_cell_tmp (P := Try.prog) rfl _ _ R _ _ _ _ rfl hV HFS.out rfl size_rstate) rfl ?_
                    exact ⟨false, ⟨⟨0, 0⟩, ⟨0, 0, 0, ByteArray.empty⟩, []⟩, _, none, 0, rfl, EntsIn.nil _ _, hn9, HNO.out, (fun h => by cases h), ⟨by decide, by decide⟩, ⟨by decide, by decide, by decide, by decide⟩, Nat.zero_le _⟩
                  | true =>
                    have HS2 : RowKit.Hid (Sto.said s0 (Z.take (k + 1)) = some ⟨⟨ht', hv'⟩, ⟨si', st', sc', sd'⟩, es'⟩) := Lib.hid (HSN.out.trans HT7)
                    clear HSN HT7
                    have t0 : wF.cell? ⟨T, 0, none⟩ = some (.int .u64 ht') := by rw [hTF'.cell]; rfl
                    have t1 : wF.cell? ⟨T, 1, none⟩ = some (.int .i64 hv') := by rw [hTF'.cell]; rfl
                    have t2 : wF.cell? ⟨T, 2, none⟩ = some (.int .u64 si') := by rw [hTF'.cell]; rfl
                    have t3 : wF.cell? ⟨T, 3, none⟩ = some (.int .u64 st') := by rw [hTF'.cell]; rfl
                    have t4 : wF.cell? ⟨T, 4, none⟩ = some (.int .u64 sc') := by rw [hTF'.cell]; rfl
                    have t5 : wF.cell? ⟨T, 5, none⟩ = some (.string sd') := by rw [hTF'.cell]; rfl
                    have t6 : wF.cell? ⟨T, 6, none⟩ = some (.slice ao' es'.length cap') := by rw [hTF'.cell]; rfl
                    have c0 : wF.cell? ⟨S, 0, none⟩ = some (.int .u64 ht) := by rw [hSF'.cell]; rfl
                    have fc0 := hSF'.free 0
                    have c1 : wF.cell? ⟨S, 1, none⟩ = some (.int .i64 hv) := by rw [hSF'.cell]; rfl
                    have fc1 := hSF'.free 1
                    have c2 : wF.cell? ⟨S, 2, none⟩ = some (.int .u64 si) := by rw [hSF'.cell]; rfl
                    have fc2 := hSF'.free 2
                    have c3 : wF.cell? ⟨S, 3, none⟩ = some (.int .u64 st) := by rw [hSF'.cell]; rfl
                    have fc3 := hSF'.free 3
                    have c4 : wF.cell? ⟨S, 4, none⟩ = some (.int .u64 sc) := by rw [hSF'.cell]; rfl
                    have fc4 := hSF'.free 4
                    have c5 : wF.cell? ⟨S, 5, none⟩ = some (.string sd) := by rw [hSF'.cell]; rfl
                    have fc5 := hSF'.free 5
                    have c6 : wF.cell? ⟨S, 6, none⟩ = some (.slice ao es.length cap) := by rw [hSF'.cell]; rfl
                    have fc6 := hSF'.free 6
                    have hSV : Blk (vset wF S (.int .u64 ht') (.int .i64 hv') (.int .u64 si') (.int .u64 st') (.int .u64 sc') (.string sd') (.slice ao' es'.length cap')) S #[.int .u64 ht', .int .i64 hv', .int .u64 si', .int .u64 st', .int .u64 sc', .string sd', .slice ao' es'.length cap'] 50 := (((((((hSF'.setCell 0 (.int .u64 ht')).setCell 1 (.int .i64 hv')).setCell 2 (.int .u64 si')).setCell 3 (.int .u64 st')).setCell 4 (.int .u64 sc')).setCell 5 (.string sd')).setCell 6 (.slice ao' es'.length cap'))
                    have hvo := vset_only wF S (.int .u64 ht') (.int .i64 hv') (.int .u64 si') (.int .u64 st') (.int .u64 sc') (.string sd') (.slice ao' es'.length cap')
                    have hn9 := hnF'.andThen hvo (fun k hk e => by have e' : k = S := e; omega)
                    have hl9 := EntsIn.keepsS (h := ⟨ht, hv⟩) (s := ⟨si, st, sc, sd⟩) hlF' hSF' hvo
                    have hr9 := hrF'.keeps hvo (fun e => by have e' : R = S := e; omega)
                    have hZ9 := hZF'.keeps hvo (fun j hj e => hZF'.apart hSF' (by decide) (by rw [hj, e]))
                    go_wp2_with fail
                    go_roundw
                    case rel =>
                      (try refine ⟨RELHOLES?_, rfl⟩)
                      exact ⟨k + 1, ⟨⟨ht', hv'⟩, ⟨si', st', sc', sd'⟩, es'⟩, ao', cap', by omega, by go_num, HS2, hSV, hl9, hr9, hn9, HH7.out, HS7.out, by show es'.length ≤ N0 + (k + 1); omega, hZ9⟩
                    case measure => simp [intOf]; omega
                · have hvo := vset_only w7 wr.heap.size (.int .u64 ht') (.int .i64 hv') (.int .u64 si') (.int .u64 st') (.int .u64 sc') (.string sd') (.slice ao' es'.length cap')
                  have hTF := vset_blk8 hT7 (.int .u64 ht') (.int .i64 hv') (.int .u64 si') (.int .u64 st') (.int .u64 sc') (.string sd') (.slice ao' es'.length cap')
                  have hne1 : wr.heap.size ≠ S := by have := hS5.lt; omega
                  have hne2 : wr.heap.size ≠ R := by have := hr4.lt; omega
                  have hSF := hS7.keeps hvo (fun e => hne1 e.symm)
                  have hrF := hr7.keeps hvo (fun e => hne2 e.symm)
                  have hlF := EntsIn.keepsS (h := ⟨0, 0⟩) (s := ⟨0, 0, 0, ByteArray.empty⟩) (b := none) (n := 0) (c := 0) hl7 hT7 hvo
                  have hnF := hw7.andThen hvo (fun k hk e => by have e' : k = wr.heap.size := e; have := hn4.size; omega)
                  have hZF := hZ7.keeps hvo (fun j hj e => hZ7.apart hT7 (by decide) (by rw [hj, e]))
                  have hTF' : Blk ((((((((w7.setCell ⟨wr.heap.size, 0, none⟩ (.int .u64 ht')).setCell ⟨wr.heap.size, 1, none⟩ (.int .i64 hv')).setCell ⟨wr.heap.size, 2, none⟩ (.int .u64 si')).setCell ⟨wr.heap.size, 3, none⟩ (.int .u64 st')).setCell ⟨wr.heap.size, 4, none⟩ (.int .u64 sc')).setCell ⟨wr.heap.size, 5, none⟩ (.string sd')).setCell ⟨wr.heap.size, 6, none⟩ (.slice ao' es'.length cap'))) wr.heap.size #[.int .u64 ht', .int .i64 hv', .int .u64 si', .int .u64 st', .int .u64 sc', .string sd', .slice ao' es'.length cap'] 50 := hTF
                  have hSF' : Blk ((((((((w7.setCell ⟨wr.heap.size, 0, none⟩ (.int .u64 ht')).setCell ⟨wr.heap.size, 1, none⟩ (.int .i64 hv')).setCell ⟨wr.heap.size, 2, none⟩ (.int .u64 si')).setCell ⟨wr.heap.size, 3, none⟩ (.int .u64 st')).setCell ⟨wr.heap.size, 4, none⟩ (.int .u64 sc')).setCell ⟨wr.heap.size, 5, none⟩ (.string sd')).setCell ⟨wr.heap.size, 6, none⟩ (.slice ao' es'.length cap'))) S #[.int .u64 ht, .int .i64 hv, .int .u64 si, .int .u64 st, .int .u64 sc, .string sd, .slice ao es.length cap] 50 := hSF
                  have hrF' : Blk ((((((((w7.setCell ⟨wr.heap.size, 0, none⟩ (.int .u64 ht')).setCell ⟨wr.heap.size, 1, none⟩ (.int .i64 hv')).setCell ⟨wr.heap.size, 2, none⟩ (.int .u64 si')).setCell ⟨wr.heap.size, 3, none⟩ (.int .u64 st')).setCell ⟨wr.heap.size, 4, none⟩ (.int .u64 sc')).setCell ⟨wr.heap.size, 5, none⟩ (.string sd')).setCell ⟨wr.heap.size, 6, none⟩ (.slice ao' es'.length cap'))) R #[.int .u64 0, .int .i64 0, .int .u64 0, .int .u64 0, .int .u64 0, .string { data := #[] }, .slice none 0 0] 50 := hrF
                  have hlF' : EntsIn ((((((((w7.setCell ⟨wr.heap.size, 0, none⟩ (.int .u64 ht')).setCell ⟨wr.heap.size, 1, none⟩ (.int .i64 hv')).setCell ⟨wr.heap.size, 2, none⟩ (.int .u64 si')).setCell ⟨wr.heap.size, 3, none⟩ (.int .u64 st')).setCell ⟨wr.heap.size, 4, none⟩ (.int .u64 sc')).setCell ⟨wr.heap.size, 5, none⟩ (.string sd')).setCell ⟨wr.heap.size, 6, none⟩ (.slice ao' es'.length cap'))) ao' es' := hlF
                  have hnF' : Only NoBlock w ((((((((w7.setCell ⟨wr.heap.size, 0, none⟩ (.int .u64 ht')).setCell ⟨wr.heap.size, 1, none⟩ (.int .i64 hv')).setCell ⟨wr.heap.size, 2, none⟩ (.int .u64 si')).setCell ⟨wr.heap.size, 3, none⟩ (.int .u64 st')).setCell ⟨wr.heap.size, 4, none⟩ (.int .u64 sc')).setCell ⟨wr.heap.size, 5, none⟩ (.string sd')).setCell ⟨wr.heap.size, 6, none⟩ (.slice ao' es'.length cap'))) := hnF
                  have hZF' : Strs ((((((((w7.setCell ⟨wr.heap.size, 0, none⟩ (.int .u64 ht')).setCell ⟨wr.heap.size, 1, none⟩ (.int .i64 hv')).setCell ⟨wr.heap.size, 2, none⟩ (.int .u64 si')).setCell ⟨wr.heap.size, 3, none⟩ (.int .u64 st')).setCell ⟨wr.heap.size, 4, none⟩ (.int .u64 sc')).setCell ⟨wr.heap.size, 5, none⟩ (.string sd')).setCell ⟨wr.heap.size, 6, none⟩ (.slice ao' es'.length cap'))) w.heap.size (.slice (some ⟨bz, oz, none⟩) Z.length cz) Z := hZF
                  generalize (((((((w7.setCell ⟨wr.heap.size, 0, none⟩ (.int .u64 ht')).setCell ⟨wr.heap.size, 1, none⟩ (.int .i64 hv')).setCell ⟨wr.heap.size, 2, none⟩ (.int .u64 si')).setCell ⟨wr.heap.size, 3, none⟩ (.int .u64 st')).setCell ⟨wr.heap.size, 4, none⟩ (.int .u64 sc')).setCell ⟨wr.heap.size, 5, none⟩ (.string sd')).setCell ⟨wr.heap.size, 6, none⟩ (.slice ao' es'.length cap')) = wF at hTF' hSF' hrF' hlF' hnF' hZF' ⊢
                  have hTS := hne1
                  generalize wr.heap.size = T at hTF' hTS ⊢
                  (try clear hvo)
                  clear hTF hSF hrF hlF hnF hZF hZ7 hR4
                  clear c0 c1 c2 c3 c4 c5 c6 y0 fy0 y1 fy1 y2 fy2 y3 fy3 y4 fy4 y5 fy5 y6 fy6 cz0 hz7
                  (try clear t0 ft0 t1 ft1 t2 ft2 t3 ft3 t4 ft4 t5 ft5 t6 ft6)
                  (try clear hO7)
                  (try clear hO47)
                  (try clear hS7)
                  (try clear hr7)
                  (try clear hl7)
                  (try clear hw7)
                  (try clear n7)
                  (try clear m7)
                  (try clear hc7)
                  (try clear hT7)
                  (try clear hI1)
                  (try clear hI2)
                  (try clear hO1)
                  (try clear hO2)
                  (try clear hT2)
                  (try clear nS)
                  (try clear nZ)
                  (try clear hS5)
                  (try clear hS4)
                  (try clear hr4)
                  (try clear hl4')
                  (try clear hAl)
                  have hle8 : es'.length ≤ es.length + 1 := hle7
                  have HH7 : RowKit.Hid ((⟨ht', hv'⟩ : Hrd).Wf) := Lib.hid hh7
                  have HS7 : RowKit.Hid ((⟨si', st', sc', sd'⟩ : Snp).Wf) := Lib.hid hs7
                  clear hle7 hh7 hs7
                  cases ok with
                  | false =>
                    have hno : Sto.rightO (Sto.said s0 Z) = none := by rw [Sto.said_none Z (k + 1) _ (HSN.out.trans HT7)]; rfl
                    have HNO := Lib.hid hno
                    clear hno HSN HT7
                    have q0 : wF.cell? ⟨R, 0, none⟩ = some (.int .u64 0) := by rw [hrF'.cell]; rfl
                    have fq0 := hrF'.free 0
                    have q1 : wF.cell? ⟨R, 1, none⟩ = some (.int .i64 0) := by rw [hrF'.cell]; rfl
                    have fq1 := hrF'.free 1
                    have q2 : wF.cell? ⟨R, 2, none⟩ = some (.int .u64 0) := by rw [hrF'.cell]; rfl
                    have fq2 := hrF'.free 2
                    have q3 : wF.cell? ⟨R, 3, none⟩ = some (.int .u64 0) := by rw [hrF'.cell]; rfl
                    have fq3 := hrF'.free 3
                    have q4 : wF.cell? ⟨R, 4, none⟩ = some (.int .u64 0) := by rw [hrF'.cell]; rfl
                    have fq4 := hrF'.free 4
                    have q5 : wF.cell? ⟨R, 5, none⟩ = some (.string { data := #[] }) := by rw [hrF'.cell]; rfl
                    have fq5 := hrF'.free 5
                    have q6 : wF.cell? ⟨R, 6, none⟩ = some (.slice none 0 0) := by rw [hrF'.cell]; rfl
                    have fq6 := hrF'.free 6
                    have hV := vset_blk8 hrF' (.int .u64 0) (.int .i64 0) (.int .u64 0) (.int .u64 0) (.int .u64 0) (.string { data := #[] }) (.slice none 0 0)
                    have hvo := vset_only wF R (.int .u64 0) (.int .i64 0) (.int .u64 0) (.int .u64 0) (.int .u64 0) (.string { data := #[] }) (.slice none 0 0)
                    have hn9 := hnF'.andThen hvo (fun k hk e => by have e' : k = R := e; omega)
                    go_wp2_with fail
                    (try simp only [Exit.inBlock, Exit.then])
                    refine bodyPost_ret (results_tmp_cell_tmp (P := Try.prog) rfl _ _ R _ _ _ _ rfl hV HFS.out rfl size_rstate) rfl ?_
                    exact ⟨false, ⟨⟨0, 0⟩, ⟨0, 0, 0, ByteArray.empty⟩, []⟩, _, none, 0, rfl, EntsIn.nil _ _, hn9, HNO.out, (fun h => by cases h), ⟨by decide, by decide⟩, ⟨by decide, by decide, by decide, by decide⟩, Nat.zero_le _⟩
                  | true =>
                    have HS2 : RowKit.Hid (Sto.said s0 (Z.take (k + 1)) = some ⟨⟨ht', hv'⟩, ⟨si', st', sc', sd'⟩, es'⟩) := Lib.hid (HSN.out.trans HT7)
                    clear HSN HT7
                    have t0 : wF.cell? ⟨T, 0, none⟩ = some (.int .u64 ht') := by rw [hTF'.cell]; rfl
                    have t1 : wF.cell? ⟨T, 1, none⟩ = some (.int .i64 hv') := by rw [hTF'.cell]; rfl
                    have t2 : wF.cell? ⟨T, 2, none⟩ = some (.int .u64 si') := by rw [hTF'.cell]; rfl
                    have t3 : wF.cell? ⟨T, 3, none⟩ = some (.int .u64 st') := by rw [hTF'.cell]; rfl
                    have t4 : wF.cell? ⟨T, 4, none⟩ = some (.int .u64 sc') := by rw [hTF'.cell]; rfl
                    have t5 : wF.cell? ⟨T, 5, none⟩ = some (.string sd') := by rw [hTF'.cell]; rfl
                    have t6 : wF.cell? ⟨T, 6, none⟩ = some (.slice ao' es'.length cap') := by rw [hTF'.cell]; rfl
                    have c0 : wF.cell? ⟨S, 0, none⟩ = some (.int .u64 ht) := by rw [hSF'.cell]; rfl
                    have fc0 := hSF'.free 0
                    have c1 : wF.cell? ⟨S, 1, none⟩ = some (.int .i64 hv) := by rw [hSF'.cell]; rfl
                    have fc1 := hSF'.free 1
                    have c2 : wF.cell? ⟨S, 2, none⟩ = some (.int .u64 si) := by rw [hSF'.cell]; rfl
                    have fc2 := hSF'.free 2
                    have c3 : wF.cell? ⟨S, 3, none⟩ = some (.int .u64 st) := by rw [hSF'.cell]; rfl
                    have fc3 := hSF'.free 3
                    have c4 : wF.cell? ⟨S, 4, none⟩ = some (.int .u64 sc) := by rw [hSF'.cell]; rfl
                    have fc4 := hSF'.free 4
                    have c5 : wF.cell? ⟨S, 5, none⟩ = some (.string sd) := by rw [hSF'.cell]; rfl
                    have fc5 := hSF'.free 5
                    have c6 : wF.cell? ⟨S, 6, none⟩ = some (.slice ao es.length cap) := by rw [hSF'.cell]; rfl
                    have fc6 := hSF'.free 6
                    have hSV : Blk (vset wF S (.int .u64 ht') (.int .i64 hv') (.int .u64 si') (.int .u64 st') (.int .u64 sc') (.string sd') (.slice ao' es'.length cap')) S #[.int .u64 ht', .int .i64 hv', .int .u64 si', .int .u64 st', .int .u64 sc', .string sd', .slice ao' es'.length cap'] 50 := (((((((hSF'.setCell 0 (.int .u64 ht')).setCell 1 (.int .i64 hv')).setCell 2 (.int .u64 si')).setCell 3 (.int .u64 st')).setCell 4 (.int .u64 sc')).setCell 5 (.string sd')).setCell 6 (.slice ao' es'.length cap'))
                    have hvo := vset_only wF S (.int .u64 ht') (.int .i64 hv') (.int .u64 si') (.int .u64 st') (.int .u64 sc') (.string sd') (.slice ao' es'.length cap')
                    have hn9 := hnF'.andThen hvo (fun k hk e => by have e' : k = S := e; omega)
                    have hl9 := EntsIn.keepsS (h := ⟨ht, hv⟩) (s := ⟨si, st, sc, sd⟩) hlF' hSF' hvo
                    have hr9 := hrF'.keeps hvo (fun e => by have e' : R = S := e; omega)
                    have hZ9 := hZF'.keeps hvo (fun j hj e => hZF'.apart hSF' (by decide) (by rw [hj, e]))
                    go_wp2_with fail
                    go_roundw
                    case rel =>
                      (try refine ⟨RELHOLES?_, rfl⟩)
                      exact ⟨k + 1, ⟨⟨ht', hv'⟩, ⟨si', st', sc', sd'⟩, es'⟩, ao', cap', by omega, by go_num, HS2, hSV, hl9, hr9, hn9, HH7.out, HS7.out, by show es'.length ≤ N0 + (k + 1); omega, hZ9⟩
                    case measure => simp [intOf]; omega
              · obtain rfl : k = Z.length := by omega
                rw [List.take_length] at HS
                have hdat : ∀ e ∈ es, e.data.size ≤ 1000000000000 := fun e he => Nat.le_trans (Sto.said_dat Z _ _ HS.out HDS.out e he) (by decide)
                have HRT : RowKit.Hid (Sto.rightO (Sto.said s0 Z) = if rightB ⟨ht, hv⟩ ⟨si, st, sc, sd⟩ es = true then some ⟨⟨ht, hv⟩, ⟨si, st, sc, sd⟩, es⟩ else none) := Lib.hid (by rw [HS.out]; rfl)
                have hO1 : Only NoBlock wr wr.drew := (Only.refl NoBlock wr).drew
                have hI1 := hl4'.keeps hO1 (fun _ _ h => h)
                go_wp2_with fail
                go_region_held3 (fun w' => w'.cell? ⟨S, 0, none⟩ = some (.int .u64 ht) ∧ w'.cell? ⟨S, 1, none⟩ = some (.int .i64 hv) ∧ w'.cell? ⟨S, 2, none⟩ = some (.int .u64 si) ∧ w'.cell? ⟨S, 3, none⟩ = some (.int .u64 st) ∧ w'.cell? ⟨S, 4, none⟩ = some (.int .u64 sc) ∧ w'.cell? ⟨S, 5, none⟩ = some (.string sd) ∧ w'.cell? ⟨S, 6, none⟩ = some (.slice ao es.length cap)) (first | with_reducible exact ⟨c0, c1, c2, c3, c4, c5, c6⟩ | go_keep)
                  ((go_at_call 56; refine (rright8_raw _ ht hv si st sc sd hs4 ao cap es (by with_reducible exact hI1) (by omega) hdat).mono ?_; rintro e w7 ⟨rfl, hO7⟩; have hO47 : Only NoBlock wr w7 := hO1.trans hO7; have hS7 := hS5.keeps hO47 (fun h => h); have hr7 := hr4.keeps hO47 (fun h => h); have hl7 := hl4'.keeps hO47 (fun _ _ h => h); have hw7 : Only NoBlock w w7 := hn4.trans hO47
                    have c0 : w7.cell? ⟨S, 0, none⟩ = some (.int .u64 ht) := by rw [hS7.cell]; rfl
                    have c1 : w7.cell? ⟨S, 1, none⟩ = some (.int .i64 hv) := by rw [hS7.cell]; rfl
                    have c2 : w7.cell? ⟨S, 2, none⟩ = some (.int .u64 si) := by rw [hS7.cell]; rfl
                    have c3 : w7.cell? ⟨S, 3, none⟩ = some (.int .u64 st) := by rw [hS7.cell]; rfl
                    have c4 : w7.cell? ⟨S, 4, none⟩ = some (.int .u64 sc) := by rw [hS7.cell]; rfl
                    have c5 : w7.cell? ⟨S, 5, none⟩ = some (.string sd) := by rw [hS7.cell]; rfl
                    have c6 : w7.cell? ⟨S, 6, none⟩ = some (.slice ao es.length cap) := by rw [hS7.cell]; rfl
                    have q0 : w7.cell? ⟨R, 0, none⟩ = some (.int .u64 0) := by rw [hr7.cell]; rfl
                    have fq0 := hr7.free 0
                    have q1 : w7.cell? ⟨R, 1, none⟩ = some (.int .i64 0) := by rw [hr7.cell]; rfl
                    have fq1 := hr7.free 1
                    have q2 : w7.cell? ⟨R, 2, none⟩ = some (.int .u64 0) := by rw [hr7.cell]; rfl
                    have fq2 := hr7.free 2
                    have q3 : w7.cell? ⟨R, 3, none⟩ = some (.int .u64 0) := by rw [hr7.cell]; rfl
                    have fq3 := hr7.free 3
                    have q4 : w7.cell? ⟨R, 4, none⟩ = some (.int .u64 0) := by rw [hr7.cell]; rfl
                    have fq4 := hr7.free 4
                    have q5 : w7.cell? ⟨R, 5, none⟩ = some (.string { data := #[] }) := by rw [hr7.cell]; rfl
                    have fq5 := hr7.free 5
                    have q6 : w7.cell? ⟨R, 6, none⟩ = some (.slice none 0 0) := by rw [hr7.cell]; rfl
                    have fq6 := hr7.free 6
                    have hne : S ≠ R := by omega
                    have hne' : R ≠ S := by omega))
                have hV := vset_blk8 hr7 (.int .u64 ht) (.int .i64 hv) (.int .u64 si) (.int .u64 st) (.int .u64 sc) (.string sd) (.slice ao es.length cap)
                have hvo := vset_only w7 R (.int .u64 ht) (.int .i64 hv) (.int .u64 si) (.int .u64 st) (.int .u64 sc) (.string sd) (.slice ao es.length cap)
                have hn9 := hw7.andThen hvo (fun k hk e => by have e' : k = R := e; omega)
                have hl9 := EntsIn.keepsS (h := ⟨0, 0⟩) (s := ⟨0, 0, 0, ByteArray.empty⟩) (b := none) (n := 0) (c := 0) hl7 hr7 hvo
                have hZ9 := (hR4.keeps hO47 (fun _ _ h => h)).keeps hvo (fun j hj e => (hR4.keeps hO47 (fun _ _ h => h)).apart hr7 (by decide) (by rw [hj, e]))
                go_wp2_with fail
                (try simp only [Exit.inBlock, Exit.then])
                refine bodyPost_ret (results_tmp_cell_tmp (P := Try.prog) rfl _ _ R _ _ _ _ rfl hV HFS.out rfl size_rstate) rfl ?_
                exact ⟨rightB ⟨ht, hv⟩ ⟨si, st, sc, sd⟩ es, ⟨⟨ht, hv⟩, ⟨si, st, sc, sd⟩, es⟩, _, ao, cap, rfl, hl9, hn9, HRT.out, (fun _ => hZ9), hh4, hs4, by rw [hzS2.out]; show es.length ≤ N0 + (2 + l.length); omega⟩
end Go.Proofs.Ytekmjhenhgmpgaa

/- A store's Anew with equations; rows of entries that lay there before. -/
namespace Go.Proofs.Ytekmjhenhgmpgaa
open Go.RowKit
set_option maxRecDepth 100000

theorem EntsIn.keepsN {S : Nat → Prop} {w w' : World} {ao : Option Addr} {l : List Ent} (h : EntsIn w ao l) (ho : Only S w w') (hs : ∀ k, k < w.heap.size → ¬ S k) : EntsIn w' ao l :=
  ⟨h.wf, h.len, fun i hi => by
    obtain ⟨b, off, e, h0, h1, h2, h3⟩ := h.cell i hi
    have hlt : b < w.heap.size := World.block_lt_of_cell? w _ h0
    have hb := ho.block b hlt (hs b hlt)
    have hc : ∀ k, w'.cell? ⟨b, k, none⟩ = w.cell? ⟨b, k, none⟩ := fun k => by simp [World.cell?, hb]
    exact ⟨b, off, e, by rw [hc, h0], by rw [hc, h1], by rw [hc, h2], by rw [hc, h3]⟩⟩
/-- a row that lay there before the disk -/
theorem ents_old {ao : Option Addr} {es : List Ent} {N d mb : Nat} (hold : ∀ a, ao = some a → es = [] ∨ a.block < N) (hd : N ≤ d) (hm : N ≤ mb) : ∀ wx wy : World, EntsIn wx ao es → Only (fun k => k = d ∨ k = mb) wx wy → EntsIn wy ao es := by
  intro wx wy h ho
  by_cases he : es = []
  · subst he; exact EntsIn.nil _ _
  · exact h.keeps ho (fun a ha e => by rcases hold a ha with h1 | h1; (exact he h1); (rcases e with e | e <;> omega))
theorem sanew_as {w : World} {base t g d mb : Nat} {M : DM} {n : Int} {old c : St} {ao : Option Addr} {cap : Nat} (hh : c.hard.Wf) (hs : c.snap.Wf) (hl : EntsIn w ao c.es) (hd : DiskAt w d mb M) (hw : (Lit.int .i64 n).wf = true) (hg : LogAt w g d n) (hS : StoreAt w base t g old) (hbase : base ≤ w.heap.size)
    (hlb : ∀ wx wy : World, EntsIn wx ao c.es → Only (fun k => k = d ∨ k = mb) wx wy → EntsIn wy ao c.es) (hle : c.es.length ≤ 1000000000) (hdat : ∀ e ∈ c.es, e.data.size ≤ 1000000000) (hsz : (Wal.text (Sto.anewR c)).size ≤ 1000000000)
    {k : Int} (hE : Sto.anewE M n c = k) {M' : DM} (hM : Sto.anewM M n c = M') {s' : St} (hs' : Sto.anewS M n old c = s') :
    Calls Try.prog 24 #[.pointer (some ⟨t, 0, none⟩), .agg #[.int .u64 c.hard.term, .int .i64 c.hard.vote, .int .u64 c.snap.index, .int .u64 c.snap.term, .int .u64 c.snap.config, .string c.snap.data, .slice ao c.es.length cap]] w (StoreEnd k M' s' base t g d mb w) := by
  subst hE; subst hM; subst hs'
  obtain ⟨⟨ht, hv⟩, ⟨si, st, sc, sd⟩, es⟩ := c
  exact sanew_raw w base t g d mb M n old ht hv si st sc sd es ao cap hh hs hl hd hw hg hS hbase hlb hle hdat hsz

end Go.Proofs.Ytekmjhenhgmpgaa

/- Rows of states of the call's own. -/
namespace Go.Proofs.Ytekmjhenhgmpgaa
open Go.RowKit
set_option maxRecDepth 100000

/-- a state, and where its entries lie -/
structure MSt where
  s : St
  ao : Option Addr
  cap : Nat
def MSt.zero : MSt := ⟨⟨⟨0, 0⟩, ⟨0, 0, 0, ByteArray.empty⟩, []⟩, none, 0⟩
def MSt.cells (x : MSt) : List Value := [.int .u64 x.s.hard.term, .int .i64 x.s.hard.vote, .int .u64 x.s.snap.index, .int .u64 x.s.snap.term, .int .u64 x.s.snap.config, .string x.s.snap.data, .slice x.ao x.s.es.length x.cap]
namespace My
theorem u_row : Try.prog.underlying 66 = some (.slice 50) := by kernel_rfl
theorem info : (Try.prog.info? 50).map (fun i => (i.zero, i.size, i.bytes)) = some (some (.agg #[.int .u64 0, .int .i64 0, .int .u64 0, .int .u64 0, .int .u64 0, .string ByteArray.empty, .slice none 0 0]), 7, 80) := by kernel_rfl
theorem flat_length (l : List MSt) : (l.flatMap MSt.cells).length = l.length * 7 := by
  induction l with
  | nil => rfl
  | cons e r ih => rw [List.flatMap_cons, List.length_append, ih, List.length_cons]; show 7 + _ = _; omega
theorem flat_get : ∀ (l : List MSt) (i j : Nat), i < l.length → j < 7 → (l.flatMap MSt.cells)[i * 7 + j]? = (l.getD i MSt.zero).cells[j]?
  | [], _, _, h, _ => by simp at h
  | e :: r, 0, j, _, hj => by
    rw [List.flatMap_cons, Nat.zero_mul, Nat.zero_add, List.getElem?_append_left (by show j < 7; exact hj)]
    rfl
  | e :: r, i + 1, j, h, hj => by
    rw [List.flatMap_cons, List.getElem?_append_right (by show 7 ≤ _; omega)]
    have : (i + 1) * 7 + j - e.cells.length = i * 7 + j := by show (i + 1) * 7 + j - 7 = _; omega
    rw [this, flat_get r i j (by simpa using h) hj, List.getD_cons_succ]
end My
/-- a row of states of the call's own -/
structure Mays (w : World) (base : Nat) (v : Value) (ms : List MSt) : Prop where
  own : w.ownsRow base 50 7 v ms.length (ms.flatMap MSt.cells)
  ents : ∀ x ∈ ms, EntsIn w x.ao x.s.es
  far : ∀ x ∈ ms, x.s.es = [] ∨ ∀ a, x.ao = some a → v.ownBlock ≠ some a.block
section
variable {w w' : World} {base : Nat} {v : Value} {ms : List MSt}
theorem EntsIn.lt {ao : Option Addr} {l : List Ent} (h : EntsIn w ao l) (hl : ¬ l = []) {a : Addr} (ha : ao = some a) : a.block < w.heap.size := by
  obtain ⟨b, off, e0, h0, -⟩ := h.cell 0 (List.length_pos_iff.2 hl)
  rw [ha] at e0
  cases e0
  exact World.block_lt_of_cell? w _ h0
theorem Mays.keeps {S : Nat → Prop} (h : Mays w base v ms) (ho : Only S w w') (hs : ∀ k, v.ownBlock = some k → ¬ S k) (he : ∀ x ∈ ms, EntsIn w' x.ao x.s.es) : Mays w' base v ms := ⟨row_keeps h.own ho hs, he, h.far⟩
theorem Mays.keepsN (h : Mays w base v ms) (ho : Only NoBlock w w') : Mays w' base v ms := h.keeps ho (fun _ _ h => h) (fun x hx => (h.ents x hx).keeps ho (fun _ _ h => h))
theorem Mays.shape (h : Mays w base v ms) (hp : 0 < ms.length) : ∃ g cap, v = .slice (some ⟨g, 0, none⟩) ms.length cap ∧ ms.length ≤ cap := by
  rcases h.own.2 with ⟨_, h0⟩ | ⟨g, cap, cur, rfl, _, _, hn, _⟩
  · omega
  · exact ⟨g, cap, rfl, hn⟩
theorem Mays.cell {g cap : Nat} (h : Mays w base (.slice (some ⟨g, 0, none⟩) ms.length cap) ms) {i : Nat} (hi : i < ms.length) : ∀ j, j < 7 → w.cell? ⟨g, i * 7 + j, none⟩ = (ms.getD i MSt.zero).cells[j]? := by
  intro j hj
  rw [← My.flat_get ms i j hi hj]
  exact World.ownsRow.cellAt h.own (i * 7 + j) (by omega)
theorem Mays.apart {p : Nat} {cs : Array Value} {t : TypeId} (h : Mays w base v ms) (hb : Blk w p cs t) (ht : t ≠ 50) : v.ownBlock ≠ some p := by
  rcases h.own.2 with ⟨rfl, h0⟩ | ⟨g, cap, cur, rfl, _, hg, _⟩
  · simp [Value.ownBlock]
  · intro e
    have e' : g = p := by simpa [Value.ownBlock] using e
    subst e'
    unfold Blk at hb
    rw [hb] at hg
    cases hg
    exact ht rfl
theorem Mays.apartS {b2 : Nat} {u : Value} {l : List ByteArray} (h : Mays w base v ms) (hs : Strs w b2 u l) : ∀ k, u.ownBlock = some k → v.ownBlock ≠ some k := by
  intro k hk e
  rcases h.own.2 with ⟨rfl, h0⟩ | ⟨g, cap, cur, rfl, _, hg, _⟩
  · cases e
  · cases e
    rcases hs.2 with ⟨rfl, h0⟩ | ⟨g2, cap2, cur2, rfl, _, hg2, _⟩
    · cases hk
    · have e' : g2 = g := by simpa [Value.ownBlock] using hk
      subst e'
      rw [hg] at hg2
      cases hg2
theorem Mays.apartD {d mb : Nat} {M : DM} (h : Mays w base v ms) (hd : DiskAt w d mb M) : ∀ k, v.ownBlock = some k → ¬ (k = d ∨ k = mb) := by
  intro k hk e
  rcases e with e | e
  · exact h.apart hd.blk (by decide) (by rw [hk, e])
  · rcases h.own.2 with ⟨rfl, h0⟩ | ⟨q, cap, cur, rfl, _, hg, _⟩
    · cases hk
    · cases hk
      obtain ⟨D, ⟨es, clock, h4, _⟩, _⟩ := hd.files
      have e' : q = mb := e
      rw [← e', hg] at h4
      cases h4
theorem Mays.one (w : World) (base : Nat) (x : MSt) (hb : base ≤ w.heap.size) (he : EntsIn w x.ao x.s.es) : Mays (w.alloc (.cells #[.int .u64 x.s.hard.term, .int .i64 x.s.hard.vote, .int .u64 x.s.snap.index, .int .u64 x.s.snap.term, .int .u64 x.s.snap.config, .string x.s.snap.data, .slice x.ao x.s.es.length x.cap] 50)) base (.slice (some ⟨w.heap.size, 0, none⟩) 1 1) [x] := by
  have hA := (Only.refl NoBlock w).alloc (Obj.cells #[.int .u64 x.s.hard.term, .int .i64 x.s.hard.vote, .int .u64 x.s.snap.index, .int .u64 x.s.snap.term, .int .u64 x.s.snap.config, .string x.s.snap.data, .slice x.ao x.s.es.length x.cap] 50)
  have hB := Blk.made w #[.int .u64 x.s.hard.term, .int .i64 x.s.hard.vote, .int .u64 x.s.snap.index, .int .u64 x.s.snap.term, .int .u64 x.s.snap.config, .string x.s.snap.data, .slice x.ao x.s.es.length x.cap] 50
  refine ⟨⟨by simp [MSt.cells], .inr ⟨w.heap.size, 1, _, rfl, hb, hB, Nat.le_refl _, by decide, rfl, by simp [MSt.cells]⟩⟩, fun y hy => ?_, fun y hy => ?_⟩
  · simp only [List.mem_singleton] at hy
    subst hy
    exact he.keeps hA (fun _ _ h => h)
  · simp only [List.mem_singleton] at hy
    subst hy
    by_cases hn : y.s.es = []
    · exact .inl hn
    · right
      intro a ha e
      have h1 := he.lt hn ha
      have h2 : w.heap.size = a.block := by simpa [Value.ownBlock] using e
      omega
end
section
variable {ops : Array Oper} {rest : List Oper} {o : Oper} {a : Act} {Q : Exit → Act → World → Prop}
theorem wpList_append_may (w : World) (hgd : o.guard = none) (s y : Operand) (ho : o.op = .call { callee := .builtin .append, args := #[s, y], argTypes := #[66, 66] })
    (base : Nat) (v : Value) (ms : List MSt) (x : MSt) (b n : Nat) (hs : a.eval s = v) (hown : Mays w base v ms) (hx : a.eval y = .slice (some ⟨b, 0, none⟩) 1 n) (hb : Blk w b #[.int .u64 x.s.hard.term, .int .i64 x.s.hard.vote, .int .u64 x.s.snap.index, .int .u64 x.s.snap.term, .int .u64 x.s.snap.config, .string x.s.snap.data, .slice x.ao x.s.es.length x.cap] 50)
    (hex : EntsIn w x.ao x.s.es) (hfx : x.s.es = [] ∨ ∀ a, x.ao = some a → v.ownBlock ≠ some a.block) (hlen : ms.length + 1 ≤ 1000000000000) (hbase : base ≤ w.heap.size)
    (h : ∀ v' w', Mays w' base v' (ms ++ [x]) → w.grownBy w' v.ownBlock → (v'.ownBlock = v.ownBlock ∨ v'.ownBlock = some w.heap.size) → wpList Try.prog ops Q rest (a.put o.dst v') w') : wpList Try.prog ops Q (o :: rest) a w := by
  obtain ⟨i, hi, hz, hsz, hby⟩ := info_parts My.info
  refine wpList_plain hgd fun K hK => ?_
  unfold Oper.wp execOp
  simp only [ho, resolve, invoke, builtin, Sem.run_bind, Sem.run_pure, Result.andThen_ok, List.map_toArray, List.map_cons, List.map_nil, hs, hx]
  obtain ⟨v', w', hr, h2, h3, _, h5⟩ := run_append_own_at (P := Try.prog) w base 66 o.type 50 i _ 7 80 My.u_row hi hz hsz hby rfl (by decide) v ms.length _ hown.own ⟨b, 0, none⟩ 1 n x.cells rfl (by
    intro j u hj
    have hjl : j < 7 := (List.getElem?_eq_some_iff.1 hj).1
    rw [Addr.add_lit, Nat.zero_add, hb.cell, ← hj]
    show x.cells.toArray[j]? = x.cells[j]?
    simp) (by
    intro u hu
    simp [MSt.cells] at hu
    rcases hu with rfl | rfl | rfl | rfl | rfl | rfl | rfl <;> rfl) (by unfold maxLen; omega) (by omega) hbase
  rw [hr]
  have hall : ∀ z ∈ ms ++ [x], EntsIn w z.ao z.s.es ∧ (z.s.es = [] ∨ ∀ a, z.ao = some a → v.ownBlock ≠ some a.block) := by
    intro z hz
    rcases List.mem_append.1 hz with hz | hz
    · exact ⟨hown.ents z hz, hown.far z hz⟩
    · simp only [List.mem_singleton] at hz
      subst hz
      exact ⟨hex, hfx⟩
  refine hK _ _ (h v' w' ⟨?_, fun z hz => ?_, fun z hz => ?_⟩ h3 h5)
  · rw [List.flatMap_append, List.length_append]
    simpa using h2
  · obtain ⟨g1, g2⟩ := hall z hz
    rcases g2 with g2 | g2
    · rw [g2]; exact EntsIn.nil _ _
    · exact g1.keeps (Only.of_grown h3) (fun a ha e => g2 a ha e)
  · obtain ⟨g1, g2⟩ := hall z hz
    by_cases hn : z.s.es = []
    · exact .inl hn
    · right
      intro a ha
      rcases h5 with e | e
      · rw [e]
        rcases g2 with g2 | g2
        · exact absurd g2 hn
        · exact g2 a ha
      · rw [e]
        intro e2
        have h1 := g1.lt hn ha
        have h2 : w.heap.size = a.block := by simpa using e2
        omega
end
end Go.Proofs.Ytekmjhenhgmpgaa

/- What a store's file says behind a crash, and which states it may be. -/
namespace Go.Proofs.Ytekmjhenhgmpgaa
open Go.RowKit
set_option maxRecDepth 100000

/-- a row of entries lies neither in the program's disk nor in its store -/
theorem EntsIn.keepsP {w w' : World} {ao : Option Addr} {l : List Ent} {d mb base t g : Nat} {M : DM} {s : St} (hl : EntsIn w ao l) (hd : DiskAt w d mb M) (hs : StoreAt w base t g s) (ho : Only (fun k => k = d ∨ k = mb ∨ k = t) w w') : EntsIn w' ao l := by
  obtain ⟨vt, htb, htr⟩ := hs.ex
  by_cases he : l = []
  · subst he; exact EntsIn.nil _ _
  · refine hl.keeps ho (fun a ha e => ?_)
    obtain ⟨b, off, e0, h0, h1, h2, h3⟩ := hl.cell 0 (List.length_pos_iff.2 he)
    rw [ha] at e0
    cases e0
    simp only [Nat.zero_mul, Nat.add_zero] at h0 h1 h2 h3
    rcases e with e | e | e
    · have e' : b = d := e
      subst e'
      rw [hd.blk.cell] at h0
      match off with
      | 0 => simp at h0
      | 1 => simp at h0
      | 2 => simp at h0
      | 3 => simp at h0
      | n + 4 => simp at h0
    · have e' : b = mb := e
      subst e'
      obtain ⟨D, ⟨es, clock, h4, _⟩, _⟩ := hd.files
      simp [World.cell?, h4] at h0
    · have e' : b = t := e
      subst e'
      obtain ⟨av, cv, rfl⟩ := htr.shape
      rw [htb.cell] at h0 h1 h2 h3
      match off with
      | 0 => simp at h0
      | 1 => simp at h1
      | 2 => simp at h0
      | 3 => simp at h2
      | 4 => simp at h2
      | n + 5 => simp at h3
theorem Mays.keepsP {w w' : World} {base b0 d mb t g : Nat} {v : Value} {ms : List MSt} {M : DM} {s : St} (h : Mays w base v ms) (hd : DiskAt w d mb M) (hs : StoreAt w b0 t g s) (ho : Only (fun k => k = d ∨ k = mb ∨ k = t) w w') : Mays w' base v ms := by
  refine h.keeps ho (fun k hk e => ?_) (fun x hx => (h.ents x hx).keepsP hd hs ho)
  obtain ⟨vt, htb, -⟩ := hs.ex
  rcases e with e | e | e
  · exact h.apart hd.blk (by decide) (by rw [hk, e])
  · rcases h.own.2 with ⟨rfl, h0⟩ | ⟨q, cap, cur, rfl, _, hg, _⟩
    · cases hk
    · cases hk
      obtain ⟨D, ⟨es, clock, h4, _⟩, _⟩ := hd.files
      have e' : q = mb := e
      rw [← e', hg] at h4
      cases h4
  · exact h.apart htb (by decide) (by rw [hk, e])
theorem Blk.keepsP {w w' : World} {p : Nat} {cs : Array Value} {ty : TypeId} {b0 d mb t g : Nat} {M : DM} {s : St} (h : Blk w p cs ty) (hd : DiskAt w d mb M) (hs : StoreAt w b0 t g s) (h1 : ty ≠ 85) (h2 : ty ≠ 100) (ho : Only (fun k => k = d ∨ k = mb ∨ k = t) w w') : Blk w' p cs ty := by
  refine h.keeps ho (fun e => ?_)
  rcases e with e | e | e
  · have k1 := h; have k2 := hd.blk
    have e' : p = d := e
    subst e'
    unfold Blk at k1 k2
    rw [k1] at k2
    cases k2
    exact h1 rfl
  · have k1 := h
    obtain ⟨D, ⟨es, clock, h4, _⟩, _⟩ := hd.files
    have e' : p = mb := e
    subst e'
    unfold Blk at k1
    rw [k1] at h4
    cases h4
  · exact hs.apart h h2 e.symm
namespace Sto
/-- behind a crash the file says one of these states -/
def LastP (M : DM) (ms : List MSt) (keep : Int) : Prop := ∃ M' sj, M.crash (keepOf [keep]) = M' ∧ openE M' 0 7 = 0 ∧ said (first 7) (Wal.openL M' 0) = some sj ∧ (∃ i, i < ms.length ∧ (ms.getD i MSt.zero).s = sj) ∧ ms.length ≤ 2000 ∧ ∀ x ∈ ms, x.s.es.length ≤ 100000
theorem LastP.firm {A : ByteArray} {x : MSt} {m : Nat} (h : Iv A x.s m) (hm : m ≤ 400) (F : Int) (b : Bool) (keep : Int) : LastP (DF A ByteArray.empty F b) [x] keep := by
  obtain ⟨h1, h2⟩ := h.opened hm
  have hl := h.len
  refine ⟨D A, x.s, crash_firm A F b _, h1, h2, ⟨0, by simp, rfl⟩, by simp, fun y hy => ?_⟩
  simp only [List.mem_singleton] at hy
  subst hy
  omega
theorem LastP.soft {A : ByteArray} {s s2 : St} {h : Hrd} {l : List Ent} {m : Nat} {B : List ByteArray} {ms : List MSt} (hI : Iv A s m) (hm : m + (1 + l.length + Lt.es l) ≤ 400) (hh : h.Wf) (hl : ∀ e ∈ l, e.Wf) (hs : saved s h l = some s2) (hB : B = [] ∨ B = out s h l)
    (hml : ms.length = (out s h l).length + 1) (hms : ∀ i, i ≤ (out s h l).length → said s ((out s h l).take i) = some (ms.getD i MSt.zero).s) (hmx : ∀ x ∈ ms, x.s.es.length ≤ 100000) (F : Int) (b : Bool) (keep : Int) : LastP (DF A (Wal.text B) F b) ms keep := by
  obtain ⟨o1, o2, o3⟩ := out_short (s := s) hh hl (by omega)
  have hg := out_good hI.right hh hl hs
  have hsB : Short B := by
    rcases hB with rfl | rfl
    · intro b hb; cases hb
    · exact o1
  have hzB : (Wal.text B).size ≤ 200000 := by
    rcases hB with rfl | rfl
    · decide
    · omega
  have hgB : Good s B := by
    rcases hB with rfl | rfl
    · exact Good.few (by simp) hI.right rfl hI.right
    · exact hg
  obtain ⟨M', j, sj, h1, h2, h3, h4, h5⟩ := crash_soft hI (by omega) hsB hzB hgB F b keep
  refine ⟨M', sj, h1, h2, h3, ⟨j, ?_, ?_⟩, by omega, hmx⟩
  · rcases hB with rfl | rfl
    · simp at h4; omega
    · omega
  · rcases hB with rfl | rfl
    · simp at h4
      subst h4
      have := hms 0 (by omega)
      rw [List.take_zero] at this h5
      rw [h5] at this
      exact (Option.some.inj this).symm
    · have := hms j h4
      rw [h5] at this
      exact (Option.some.inj this).symm
theorem said_all {s : St} (hh : s.hard.Wf) (hp : s.snap.Wf) (he : ∀ e ∈ s.es, e.Wf) (hr : rb s = true) (hd : s.snap.data.size ≤ 32768) (L : List ByteArray) : said (first 7) (anewR s ++ L) = said s L := by
  have hok : anewOk s = true := by
    unfold anewOk
    rw [Bool.and_eq_true, decide_eq_true_eq]
    exact ⟨hr, hd⟩
  rw [said_append, said_anew hh hp he hok]
  rfl
end Sto
end Go.Proofs.Ytekmjhenhgmpgaa

/- What records say behind all of a state: the law's own 'said'. -/
namespace Go.Proofs.Ytekmjhenhgmpgaa
open Go.RowKit
set_option maxRecDepth 100000

set_option maxHeartbeats 8000000 in
theorem lsaid8_raw (w : World) (ht : Nat) (hv : Int) (si st sc : Nat) (sd : ByteArray) (es : List Ent) (ao : Option Addr) (cap : Nat) (aoL : Option Addr) (capL : Nat) (L : List ByteArray)
    (hh : (⟨ht, hv⟩ : Hrd).Wf) (hs : (⟨si, st, sc, sd⟩ : Snp).Wf) (hl : EntsIn w ao es) (hle : es.length ≤ 100000) (hdat : ∀ e ∈ es, e.data.size ≤ 100000) (hdsz : sd.size ≤ 100000) (hL : StrsIn w aoL L) (hLl : L.length ≤ 100000) (hLb : ∀ b ∈ L, b.size ≤ 100000) :
    Calls Try.prog 26 #[.agg #[.int .u64 ht, .int .i64 hv, .int .u64 si, .int .u64 st, .int .u64 sc, .string sd, .slice ao es.length cap], .slice aoL L.length capL] w (RSaidEnd 7 (Sto.anewR ⟨⟨ht, hv⟩, ⟨si, st, sc, sd⟩, es⟩ ++ L) w) := by
  have HR : RowKit.Hid (Sto.anewR ⟨⟨ht, hv⟩, ⟨si, st, sc, sd⟩, es⟩ = [Sto.hardB ⟨ht, hv⟩, Sto.snapB ⟨si, st, sc, sd⟩] ++ es.map Sto.entB) := Lib.hid rfl
  have hRb : RowKit.Hid (∀ b ∈ Sto.anewR ⟨⟨ht, hv⟩, ⟨si, st, sc, sd⟩, es⟩ ++ L, b.size ≤ 1000000000000) := Lib.hid (by
    have h1 := Sto.hardB_size (h := ⟨ht, hv⟩) hh.term
    have h2 := Sto.snapB_size (s := ⟨si, st, sc, sd⟩) hs
    simp only at h2
    intro b hb
    rcases List.mem_append.1 hb with hb | hb
    · rw [HR.out] at hb
      rcases List.mem_append.1 hb with hb | hb
      · simp only [List.mem_cons, List.mem_nil_iff, or_false] at hb
        rcases hb with rfl | rfl <;> omega
      · obtain ⟨e, he, rfl⟩ := List.mem_map.1 hb
        have h3 := Sto.entB_size (hl.wf e he)
        have h4 := hdat e he
        omega
    · have := hLb b hb
      omega)
  generalize hZ0 : Sto.anewR ⟨⟨ht, hv⟩, ⟨si, st, sc, sd⟩, es⟩ = Z0 at HR hRb ⊢
  clear hZ0
  have a1 := Blk.made w #[.int .u64 ht, .int .i64 hv, .int .u64 si, .int .u64 st, .int .u64 sc, .string sd, .slice ao es.length cap] 50
  have o1 := (Only.refl NoBlock w).alloc (Obj.cells #[.int .u64 ht, .int .i64 hv, .int .u64 si, .int .u64 st, .int .u64 sc, .string sd, .slice ao es.length cap] 50)
  have z1 : (w.alloc (Obj.cells #[.int .u64 ht, .int .i64 hv, .int .u64 si, .int .u64 st, .int .u64 sc, .string sd, .slice ao es.length cap] 50)).heap.size = w.heap.size + 1 := by simp
  have a2 := Blk.made (w.alloc (Obj.cells #[.int .u64 ht, .int .i64 hv, .int .u64 si, .int .u64 st, .int .u64 sc, .string sd, .slice ao es.length cap] 50)) #[.int .u64 0, .int .i64 0, .int .u64 0, .int .u64 0, .int .u64 0, .string { data := #[] }, .slice none 0 0] 50
  have o2 := (Only.refl NoBlock (w.alloc (Obj.cells #[.int .u64 ht, .int .i64 hv, .int .u64 si, .int .u64 st, .int .u64 sc, .string sd, .slice ao es.length cap] 50))).alloc (Obj.cells #[.int .u64 0, .int .i64 0, .int .u64 0, .int .u64 0, .int .u64 0, .string { data := #[] }, .slice none 0 0] 50)
  have hX := a1.keeps o2 (fun h => h)
  have hn := o1.trans o2
  rw [z1] at a2
  clear a1 o1 o2 z1
  have HH := Lib.hid hh
  have HSW := Lib.hid hs
  clear hh hs
  go_enter Try.func26, Try.ntmps26
  go_upto_region 1 with fail
  obtain ⟨P, hP⟩ : ∃ P, w.heap.size = P := ⟨_, rfl⟩
  have hwP : w.heap.size ≤ P := by omega
  rw [hP] at hX a2 ⊢
  clear hP
  generalize (w.alloc (Obj.cells #[.int .u64 ht, .int .i64 hv, .int .u64 si, .int .u64 st, .int .u64 sc, .string sd, .slice ao es.length cap] 50)).alloc (Obj.cells #[.int .u64 0, .int .i64 0, .int .u64 0, .int .u64 0, .int .u64 0, .string { data := #[] }, .slice none 0 0] 50) = w2 at hX a2 hn ⊢
  have hPR : P < P + 1 := by omega
  generalize P + 1 = R at a2 hPR ⊢
  have x0 : w2.cell? ⟨P, 0, none⟩ = some (.int .u64 ht) := by rw [hX.cell]; rfl
  have x1 : w2.cell? ⟨P, 1, none⟩ = some (.int .i64 hv) := by rw [hX.cell]; rfl
  have x2 : w2.cell? ⟨P, 2, none⟩ = some (.int .u64 si) := by rw [hX.cell]; rfl
  have x3 : w2.cell? ⟨P, 3, none⟩ = some (.int .u64 st) := by rw [hX.cell]; rfl
  have x4 : w2.cell? ⟨P, 4, none⟩ = some (.int .u64 sc) := by rw [hX.cell]; rfl
  have x5 : w2.cell? ⟨P, 5, none⟩ = some (.string sd) := by rw [hX.cell]; rfl
  go_cut [6] (fun v5 wx => ∃ (W : World), W = wx ∧ Strs wx w.heap.size v5 [Sto.hardB ⟨ht, hv⟩, Sto.snapB ⟨si, st, sc, sd⟩] ∧ Blk wx P #[.int .u64 ht, .int .i64 hv, .int .u64 si, .int .u64 st, .int .u64 sc, .string sd, .slice ao es.length cap] 50 ∧ Blk wx R #[.int .u64 0, .int .i64 0, .int .u64 0, .int .u64 0, .int .u64 0, .string { data := #[] }, .slice none 0 0] 50 ∧ Only NoBlock w wx)
  case first =>
    have hXd := hX.drew
    go_region_held3 (fun w' => w'.cell? ⟨P, 0, none⟩ = some (.int .u64 ht) ∧ w'.cell? ⟨P, 1, none⟩ = some (.int .i64 hv) ∧ w'.cell? ⟨P, 2, none⟩ = some (.int .u64 si) ∧ w'.cell? ⟨P, 3, none⟩ = some (.int .u64 st) ∧ w'.cell? ⟨P, 4, none⟩ = some (.int .u64 sc) ∧ w'.cell? ⟨P, 5, none⟩ = some (.string sd))
      (first | with_reducible exact ⟨x0, x1, x2, x3, x4, x5⟩ | exact ⟨by rw [hXA.cell]; rfl, by rw [hXA.cell]; rfl, by rw [hXA.cell]; rfl, by rw [hXA.cell]; rfl, by rw [hXA.cell]; rfl, by rw [hXA.cell]; rfl⟩ | exact ⟨by rw [hXB.cell]; rfl, by rw [hXB.cell]; rfl, by rw [hXB.cell]; rfl, by rw [hXB.cell]; rfl, by rw [hXB.cell]; rfl, by rw [hXB.cell]; rfl⟩ | go_keep)
      (first
        | (go_at_call 21; refine (rhard8_at _ ⟨ht, hv⟩ HH.out).mono ?_; rintro e wA ⟨rfl, hOA⟩; have hXA := by first | exact hXd.keeps hOA (fun h => h) | exact hXB.keeps hOA (fun h => h))
        | (go_at_call 57; refine (rsnap8_at _ si st sc sd HSW.out (by omega)).mono ?_; rintro e wB ⟨rfl, hOB⟩; have hXB := by first | exact hXd.keeps hOB (fun h => h) | exact hXA.keeps hOB (fun h => h)))
    · have hO3 := ((hn.drew).trans hOA).trans hOB
      have hO23 := (((Only.refl NoBlock w2).drew).trans hOA).trans hOB
      have hz3 := hO3.size
      have hA3 := (Only.refl NoBlock wB).alloc (Obj.cells #[.string (Sto.hardB ⟨ht, hv⟩), .string (Sto.snapB ⟨si, st, sc, sd⟩)] 9)
      go_wp2_with fail
      go_meet
      exact ⟨_, rfl, strs_two8 wB w.heap.size _ _ (by omega), hXB.keeps hA3 (fun h => h), (a2.keeps hO23 (fun h => h)).keeps hA3 (fun h => h), hO3.trans hA3⟩
  case rest =>
    obtain ⟨wc, rfl, hR5, hX5, hB5, hn5⟩ := hcut
    clear x0 x1 x2 x3 x4 x5 hX a2 hn
    have q6 : wc.cell? ⟨P, 6, none⟩ = some (.slice ao es.length cap) := by rw [hX5.cell]; rfl
    go_wp2_with fail
    go_loopw [6, 19] (fun u5 u31 wr => ∃ k : Nat, k ≤ es.length ∧ u31 = .int .i64 k ∧ Strs wr w.heap.size u5 ([Sto.hardB ⟨ht, hv⟩, Sto.snapB ⟨si, st, sc, sd⟩] ++ (es.take k).map Sto.entB) ∧ Blk wr P #[.int .u64 ht, .int .i64 hv, .int .u64 si, .int .u64 st, .int .u64 sc, .string sd, .slice ao es.length cap] 50 ∧ Blk wr R #[.int .u64 0, .int .i64 0, .int .u64 0, .int .u64 0, .int .u64 0, .string { data := #[] }, .slice none 0 0] 50 ∧ Only NoBlock w wr) (fun _ u31 _ => es.length - (intOf u31).toNat)
    case atStart => exact ⟨0, by omega, rfl, by simpa using hR5, hX5, hB5, hn5⟩
    case round =>
      clear hR5 hX5 hB5 hn5 q6
      obtain ⟨k, hk, rfl, hR, hX6, hB6, hn6⟩ := hrel
      by_cases hlt : k < es.length
      · obtain ⟨bb, off, rfl, e0, e1, e2, e3⟩ := (hl.keeps hn6 (fun _ _ h => h)).cell k hlt
        have hwf := hl.at_wf hlt
        have hdk : (es.getD k Ent.zero).data.size ≤ 1000000000 := by
          rw [List.getD_eq_getElem?_getD, List.getElem?_eq_getElem hlt]
          exact Nat.le_trans (hdat _ (List.getElem_mem hlt)) (by decide)
        have hts : (es.take (k + 1)).map Sto.entB = (es.take k).map Sto.entB ++ [Sto.entB (es.getD k Ent.zero)] := by
          rw [List.take_add_one, List.getElem?_eq_getElem hlt, List.getD_eq_getElem?_getD, List.getElem?_eq_getElem hlt, List.map_append]; rfl
        have HTS := Lib.hid hts
        have hlk : ([Sto.hardB ⟨ht, hv⟩, Sto.snapB ⟨si, st, sc, sd⟩] ++ (es.take k).map Sto.entB).length ≤ 2 + k := by simp; omega
        clear hts
        generalize es.getD k Ent.zero = en at e0 e1 e2 e3 hwf hdk HTS
        obtain ⟨et, ei, ek, ed⟩ := en
        have HWF := Lib.hid hwf
        clear hwf
        simp only at e0 e1 e2 e3 hdk
        have hz6 := hn6.size
        go_wp2_with fail
        have hAe := (Only.refl NoBlock wr).alloc (Obj.cells #[.int .u64 et, .int .u64 ei, .int .i64 ek, .string ed] 77)
        generalize wr.alloc (Obj.cells #[.int .u64 et, .int .u64 ei, .int .i64 ek, .string ed] 77) = wE at hAe ⊢
        refine (rent8_at wE et ei ek ed HWF.out hdk).mono ?_
        rintro e w7 ⟨rfl, hO7⟩
        have hO67 := hAe.trans hO7
        have hX7 := hX6.keeps hO67 (fun h => h)
        have hB7 := hB6.keeps hO67 (fun h => h)
        have hn7 := hn6.trans hO67
        have hR7 := hR.keeps hO67 (fun _ _ h => h)
        have hz7 := hn7.size
        have hA7 := (Only.refl NoBlock w7).alloc (Obj.cells #[.string (Sto.entB ⟨et, ei, ek, ed⟩)] 9)
        have hRX := hR7.apart hX7 (by decide)
        have hRB := hR7.apart hB7 (by decide)
        clear hR hX6 hB6 hn6 hO67 hO7 hAe hz6 e0 e1 e2 e3
        go_wp2_with (first
          | (at_builtin; refine wpList_append_str _ rfl _ _ rfl w.heap.size _ ([Sto.hardB ⟨ht, hv⟩, Sto.snapB ⟨si, st, sc, sd⟩] ++ (es.take k).map Sto.entB) (Sto.entB ⟨et, ei, ek, ed⟩) ⟨w7.heap.size, 0, none⟩ 1 rfl (hR7.keeps hA7 (fun _ _ h => h)) rfl (cell_str _ _ _ _ rfl) (by omega) (by simp; omega) ?_; intro v8 w8 hs8 hg8))
        go_roundw
        case rel =>
          refine ⟨k + 1, by omega, by go_num, ?_, (hX7.keeps hA7 (fun h => h)).keeps (Only.of_grown hg8) (fun e => hRX e), (hB7.keeps hA7 (fun h => h)).keeps (Only.of_grown hg8) (fun e => hRB e), (hn7.trans hA7).grown hg8 (fun k hk hl => absurd (World.ownsRow.lt hR7 k hk).1 (by omega))⟩
          rw [HTS.out, ← List.append_assoc]
          exact hs8
        case measure => simp [intOf]; omega
      · obtain rfl : k = es.length := by omega
        rw [List.take_length, ← HR.out] at hR
        have hZl : Z0.length ≤ 2 + es.length := by rw [HR.out]; simp; omega
        have hL6 := hL.keeps hn6 (fun _ _ h => h)
        have hz6 := hn6.size
        have hRB := hR.apart hB6 (by decide)
        clear hX6 HR hL
        go_wp2_with (first
          | (at_builtin; refine wpList_append_texts _ rfl _ _ rfl w.heap.size _ Z0 L aoL _ capL rfl hR rfl rfl hL6 (by omega) (by omega) ?_; intro v7 w7 hs7 hg7 hor7))
        have hB7 := hB6.keeps (Only.of_grown hg7) (fun e => hRB e)
        have hn7 : Only NoBlock w w7 := hn6.appended hR (Nat.le_refl _) hg7
        clear hB6 hn6 hR hL6 hg7 hor7
        obtain ⟨a7, c7, rfl⟩ := hs7.shape
        have hi7 := hs7.read.1
        have hl7 : (Z0 ++ L).length ≤ 2000000 := by rw [List.length_append]; omega
        clear hs7
        go_wp2_with fail
        refine (rsaid8_at w7 7 (by omega) a7 c7 (Z0 ++ L) hi7 hl7 hRb.out).mono ?_
        rintro e w8 ⟨ok, ⟨⟨ht', hv'⟩, ⟨si', st', sc', sd'⟩, es'⟩, ao', cap', rfl, hl8, hO8, HT8, hh8, hs8, hle8, hfar8⟩
        have HTH := Lib.hid HT8
        have HHH := Lib.hid hh8
        have HHS := Lib.hid hs8
        have HLE := Lib.hid hle8
        simp only at hl8
        have hfar9 := Lib.hid (show Far w.heap.size none ao' from fun a e => .inr (by rcases hfar8 a e with h | h; (rw [h] at e; cases e); exact Nat.le_trans hn7.size h))
        clear HT8 hh8 hs8 hle8 hfar8
        simp only [stCells]
        have hB8 := hB7.keeps hO8 (fun h => h)
        have hn8 := hn7.trans hO8
        clear hB7 hn7 hO8 hi7
        obtain ⟨fs, hfs⟩ := u_rstate
        have HFS := Lib.hid hfs
        clear hfs
        have q0 : w8.cell? ⟨R, 0, none⟩ = some (.int .u64 0) := by rw [hB8.cell]; rfl
        have fq0 := hB8.free 0
        have q1 : w8.cell? ⟨R, 1, none⟩ = some (.int .i64 0) := by rw [hB8.cell]; rfl
        have fq1 := hB8.free 1
        have q2 : w8.cell? ⟨R, 2, none⟩ = some (.int .u64 0) := by rw [hB8.cell]; rfl
        have fq2 := hB8.free 2
        have q3 : w8.cell? ⟨R, 3, none⟩ = some (.int .u64 0) := by rw [hB8.cell]; rfl
        have fq3 := hB8.free 3
        have q4 : w8.cell? ⟨R, 4, none⟩ = some (.int .u64 0) := by rw [hB8.cell]; rfl
        have fq4 := hB8.free 4
        have q5 : w8.cell? ⟨R, 5, none⟩ = some (.string { data := #[] }) := by rw [hB8.cell]; rfl
        have fq5 := hB8.free 5
        have q6 : w8.cell? ⟨R, 6, none⟩ = some (.slice none 0 0) := by rw [hB8.cell]; rfl
        have fq6 := hB8.free 6
        have hV := vset_blk8 hB8 (.int .u64 ht') (.int .i64 hv') (.int .u64 si') (.int .u64 st') (.int .u64 sc') (.string sd') (.slice ao' es'.length cap')
        have hvo := vset_only w8 R (.int .u64 ht') (.int .i64 hv') (.int .u64 si') (.int .u64 st') (.int .u64 sc') (.string sd') (.slice ao' es'.length cap')
        have hn9 := hn8.andThen hvo (fun k hk e => by have e' : k = R := e; omega)
        have hl9 := EntsIn.keepsS (h := ⟨0, 0⟩) (s := ⟨0, 0, 0, ByteArray.empty⟩) (b := none) (n := 0) (c := 0) hl8 hB8 hvo
        go_wp2_with fail
        (try simp only [Exit.inBlock, Exit.then])
        refine bodyPost_ret (results_cell_tmp (P := Try.prog) rfl _ _ R _ _ _ _ rfl hV HFS.out rfl size_rstate) rfl ?_
        exact ⟨ok, ⟨⟨ht', hv'⟩, ⟨si', st', sc', sd'⟩, es'⟩, ao', cap', rfl, hl9, hn9, HTH.out, HHH.out, HHS.out, HLE.out, hfar9.out⟩
theorem lsaid8_as {w : World} {s : St} {ao : Option Addr} {cap len : Nat} {aoL : Option Addr} {capL k : Nat} {L : List ByteArray} (hh : s.hard.Wf) (hs : s.snap.Wf) (hl : EntsIn w ao s.es) (hlen : s.es.length = len) (hle : s.es.length ≤ 100000) (hdat : ∀ e ∈ s.es, e.data.size ≤ 100000) (hdsz : s.snap.data.size ≤ 100000) (hL : StrsIn w aoL L) (hk : L.length = k) (hLl : L.length ≤ 100000) (hLb : ∀ b ∈ L, b.size ≤ 100000) :
    Calls Try.prog 26 #[.agg #[.int .u64 s.hard.term, .int .i64 s.hard.vote, .int .u64 s.snap.index, .int .u64 s.snap.term, .int .u64 s.snap.config, .string s.snap.data, .slice ao len cap], .slice aoL k capL] w (RSaidEnd 7 (Sto.anewR s ++ L) w) := by
  subst hlen; subst hk
  obtain ⟨⟨ht, hv⟩, ⟨si, st, sc, sd⟩, es⟩ := s
  exact lsaid8_raw w ht hv si st sc sd es ao cap aoL capL L hh hs hl hle hdat hdsz hL hLl hLb
end Go.Proofs.Ytekmjhenhgmpgaa
