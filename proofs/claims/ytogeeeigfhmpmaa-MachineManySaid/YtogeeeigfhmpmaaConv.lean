/- Texts and rows of bytes: a text's numbers, a row made of a text, what is appended to it, and a text made of a row. -/
import Derived.Test.YtogeeeigfhmpmaaBytes
import Derived.Laws.IdiomStrings
namespace Go.Proofs.Ytogeeeigfhmpmaa
open Go.RowKit
set_option maxRecDepth 100000

/-- the numbers of a text -/
def nums (s : ByteArray) : List Int := s.data.toList.map (fun b => (b.toNat : Int))
/-- the text of numbers -/
def textOf (l : List Int) : ByteArray := ⟨(l.map (fun x => UInt8.ofNat x.toNat)).toArray⟩

theorem nums_length (s : ByteArray) : (nums s).length = s.size := by simp [nums]
theorem textOf_size (l : List Int) : (textOf l).size = l.length := by
  show (l.map _).toArray.size = _
  simp
theorem textOf_nums (s : ByteArray) : textOf (nums s) = s := by
  unfold textOf nums
  obtain ⟨d⟩ := s
  congr 1
  apply Array.ext'
  simp [Function.comp_def]
theorem nums_byte (s : ByteArray) : ∀ x ∈ nums s, 0 ≤ x ∧ x ≤ 255 := by
  intro x hx
  unfold nums at hx
  obtain ⟨b, _, rfl⟩ := List.mem_map.1 hx
  have := b.toNat_lt
  omega
theorem nums_textOf {l : List Int} (h : ∀ x ∈ l, 0 ≤ x ∧ x ≤ 255) : nums (textOf l) = l := by
  unfold nums textOf
  simp only [List.map_map]
  conv => rhs; rw [← List.map_id l]
  refine List.map_congr_left fun x hx => ?_
  have := h x hx
  simp
  omega
theorem nums_append (s t : ByteArray) : nums (s ++ t) = nums s ++ nums t := by simp [nums]
theorem nums_inj {s t : ByteArray} (h : nums s = nums t) : s = t := by rw [← textOf_nums s, h, textOf_nums]
theorem textOf_append (a b : List Int) : textOf (a ++ b) = textOf a ++ textOf b := by
  unfold textOf
  apply ByteArray.ext
  simp
theorem nums_getD (s : ByteArray) (i : Nat) (h : i < s.size) : (nums s).getD i 0 = ((s.data.toList.getD i 0).toNat : Int) := by
  have : i < s.data.toList.length := by simpa using h
  unfold nums
  rw [List.getD_eq_getElem?_getD, List.getD_eq_getElem?_getD, List.getElem?_map, List.getElem?_eq_getElem this]
  rfl
theorem nums_get (s : ByteArray) (i : Nat) (h : i < s.size) : (nums s).getD i 0 = ((s[i]'h).toNat : Int) := by
  rw [nums_getD s i h]
  have h' : i < s.data.toList.length := by simpa using h
  rw [List.getD_eq_getElem?_getD, List.getElem?_eq_getElem h']
  rfl
theorem nums_extract (s : ByteArray) (i j : Nat) : nums (s.extract i j) = ((nums s).drop i).take (j - i) := by
  unfold nums
  rw [ByteArray.data_extract, Array.toList_extract, List.extract_eq_take_drop, List.map_take, List.map_drop]

/-- a row that was made of a text -/
def ConvRow (w : World) (g : Nat) (l : List Int) (cap : Nat) : Prop :=
  l.length ≤ cap ∧ cap ≤ maxLen ∧ (∀ x ∈ l, 0 ≤ x ∧ x ≤ 255) ∧ ∃ cur : Array Value, w.heap[g]? = some (.cells cur 5 (cap, cap + 1)) ∧ cur.size = cap ∧ cur.toList.take l.length = l.map (Value.int .u8)

theorem ConvRow.keeps {S : Nat → Prop} {w w' : World} {g cap : Nat} {l : List Int} (h : ConvRow w g l cap) (ho : Only S w w') (hs : ¬ S g) : ConvRow w' g l cap := by
  obtain ⟨h1, h2, h3, cur, h4, h5, h6⟩ := h
  exact ⟨h1, h2, h3, cur, ho.keeps hs h4, h5, h6⟩
theorem ConvRow.cell {w : World} {g cap : Nat} {l : List Int} (h : ConvRow w g l cap) (i : Nat) (hi : i < l.length) : w.cell? ⟨g, i, none⟩ = some (.int .u8 (l.getD i 0)) := by
  obtain ⟨h1, h2, h3, cur, h4, h5, h6⟩ := h
  have h7 : cur[i]? = some (.int .u8 (l.getD i 0)) := by
    have : (cur.toList.take l.length)[i]? = (l.map (Value.int .u8))[i]? := by rw [h6]
    rw [List.getElem?_take, if_pos hi, List.getElem?_map, List.getElem?_eq_getElem hi] at this
    rw [← Array.getElem?_toList, this, List.getD_eq_getElem?_getD, List.getElem?_eq_getElem hi]
    rfl
  simp [World.cell?, h4, h7]
theorem ConvRow.read {w : World} {g cap : Nat} {l : List Int} (h : ConvRow w g l cap) : BytesIn w (some ⟨g, 0, none⟩) l :=
  ⟨h.2.2.1, by have := h.1; have := h.2.1; omega, fun i hi => ⟨g, 0, rfl, by rw [Nat.zero_add]; exact h.cell i hi⟩⟩

namespace Cv
theorem run_storeCells_mark (P : Program) (g o : Nat) (t : TypeId) (lo hi : Nat) : ∀ (vs : List Value) (i : Nat) (cur : Array Value) (w : World), w.heap[g]? = some (.cells cur t (lo, hi)) → o + i + vs.length ≤ cur.size → o + i + vs.length ≤ lo → (∀ v ∈ vs, v.oneCell' = true) →
    (storeCells ⟨g, o, none⟩ vs i).run P w = .ok () (w.setRow g (cur.toList.take (o + i) ++ vs ++ cur.toList.drop (o + i + vs.length)).toArray)
  | [], i, cur, w, hg, _, _, _ => by
    simp only [storeCells, List.append_nil, List.length_nil, Nat.add_zero, List.take_append_drop, Array.toArray_toList]
    rw [setRow_self w g cur t (lo, hi) hg]
    rfl
  | v :: rest, i, cur, w, hg, hl, hlo, h1 => by
    have hi' : o + i < cur.size := by simp at hl; omega
    have hadd : (⟨g, o, none⟩ : Addr).add i = ⟨g, o + i, none⟩ := by unfold Addr.add; split <;> simp_all
    have hcell : w.cell? ⟨g, o + i, none⟩ = some cur[o + i] := by simp [World.cell?, hg, hi']
    have hfro : w.frozen? ⟨g, o + i, none⟩ = false := by simp [World.frozen?, hg]; simp at hlo; omega
    have hst : (store ((⟨g, o, none⟩ : Addr).add i) v).run P w = .ok () (w.setRow g (cur.setIfInBounds (o + i) v)) := by
      rw [hadd, run_store P w _ v _ (h1 v (by simp)), hcell]
      simp [hfro, setCell_eq_setRow w g (o + i) cur t (lo, hi) v hg]
    have ih := run_storeCells_mark P g o t lo hi rest (i + 1) (cur.setIfInBounds (o + i) v) (w.setRow g (cur.setIfInBounds (o + i) v)) (setRow_heap w g cur _ t _ hg) (by simp at hl ⊢; omega) (by simp at hlo ⊢; omega) (fun x hx => h1 x (by simp [hx]))
    simp only [storeCells, Sem.run_bind, hst, Result.andThen_ok, ih, setRow_setRow]
    congr 3
    have e := list_seg_step cur.toList (o + i) v rest (by simp at hl ⊢; omega)
    simpa [Array.toList_setIfInBounds, Nat.add_assoc] using e

theorem run_append_mark {P : Program} (w : World) (t ty e : TypeId) (i : TypeInfo) (ht : P.underlying t = some (.slice e)) (hi : P.info? e = some i) (hs1 : i.size = 1) (lo hi' : Nat)
    (g sLen sCap : Nat) (cur : Array Value) (hg : w.heap[g]? = some (.cells cur e (lo, hi')))
    (a : Addr) (m c : Nat) (news : List Value) (hl : news.length = m) (hnews : ∀ j u, news[j]? = some u → w.cell? (a.add j) = some u) (h1 : ∀ u ∈ news, u.oneCell' = true)
    (hroom : sLen + m ≤ sCap) (hfit : sLen + m ≤ cur.size) (hlo : sLen + m ≤ lo) :
    (Builtin.append_ #[t, t] ty #[.slice (some ⟨g, 0, none⟩) sLen sCap, .slice (some a) m c]).run P w =
      .ok (.slice (some ⟨g, 0, none⟩) (sLen + m) sCap) (w.setRow g (cur.toList.take sLen ++ news ++ cur.toList.drop (sLen + news.length)).toArray) := by
  have hf := run_firstCells_some (P := P) w i.size m a m c news (by rw [hs1, Nat.mul_one]; exact hl) hnews
  have hst := run_storeCells_mark P g (sLen * i.size) e lo hi' news 0 cur w hg (by rw [hs1]; omega) (by rw [hs1]; omega) h1
  simp only [Nat.add_zero, hs1, Nat.mul_one] at hst
  rw [hs1] at hf
  simp [Builtin.append_, run_underlying ht, sizeOf, typeInfo, hi, Builtin.lenOf, hroom, hf, hs1, Addr.add_lit, hst]
end Cv

section
variable {ops : Array Oper} {rest : List Oper} {o : Oper} {a : Act} {Q : Exit → Act → World → Prop}
theorem Cv.u_byte : Try.prog.underlying 5 = some (.int .u8) := by kernel_rfl
theorem Cv.u_string : Try.prog.underlying 9 = some .string := by kernel_rfl
theorem wpList_conv_bytes (w : World) (hg : o.guard = none) (src : TypeId) (x : Operand) (hop : o.op = Op.convert src 100 x) (hs : Try.prog.underlying src = some .string) (he : Try.prog.underlying 5 = some (.int .u8)) (s : ByteArray) (hx : a.eval x = .string s) (hsz : s.size ≤ maxLen)
    (h : ∀ g cap w', ConvRow w' g (nums s) cap → w.heap.size ≤ g → Only NoBlock w w' → wpList Try.prog ops Q rest (a.put o.dst (.slice (some ⟨g, 0, none⟩) (nums s).length cap)) w') : wpList Try.prog ops Q (o :: rest) a w := by
  refine wpList_plain hg fun K hK => ?_
  have hrun := run_bytes_of_string (P := Try.prog) w src 100 5 s hs By.u_bytes he
  have hge := grownCap_ge w s.size 0 5
  have hle := grownCap_le_maxLen w s.size 0 5 hsz
  unfold Oper.wp
  simp [execOp, hop, hx, hrun, Result.andThen, -World.alloc_eq, -World.drew_eq]
  generalize grownCap w s.size 0 5 = cap at hge hle ⊢
  have hbs : (bytesRow s cap).size = cap := by unfold bytesRow; simp; omega
  rw [hbs, ← nums_length]
  refine hK _ _ (h w.heap.size cap _ ⟨by rw [nums_length]; exact hge, hle, nums_byte s, bytesRow s cap, ?_, hbs, ?_⟩ (Nat.le_refl _) ⟨rfl, rfl, rfl, by simp, fun k hk _ => heap_alloc_old w.drew _ hk⟩)
  · exact heap_alloc_new w.drew _
  · rw [nums_length]
    unfold bytesRow nums
    rw [Array.toList_append, List.take_append_of_le_length (by simp)]
    rw [List.take_of_length_le (by simp)]
    simp [Function.comp_def]

theorem wpList_append_conv (w : World) (hgd : o.guard = none) (s x : Operand) (ho : o.op = .call { callee := .builtin .append, args := #[s, x], argTypes := #[100, 100] })
    (g cap n : Nat) (l : List Int) (hs : a.eval s = .slice (some ⟨g, 0, none⟩) n cap) (hn : n = l.length) (hrow : ConvRow w g l cap) (ad : Addr) (m c : Nat) (news : List Int) (hx : a.eval x = .slice (some ad) m c) (hm : news.length = m)
    (hnews : ∀ j u, (news.map (Value.int .u8))[j]? = some u → w.cell? (ad.add j) = some u) (hwf : ∀ x ∈ news, 0 ≤ x ∧ x ≤ 255) (hlen : l.length + m ≤ 140737488355328) (r : List Int) (hr : l ++ news = r)
    (h : ∀ ao cap' w', BytesIn w' ao r → Only (fun k => k = g) w w' → r.length ≤ cap' → cap' ≤ maxLen → wpList Try.prog ops Q rest (a.put o.dst (.slice ao r.length cap')) w') : wpList Try.prog ops Q (o :: rest) a w := by
  subst hn
  subst hr
  rw [List.length_append, hm] at h
  obtain ⟨i, hi, hz, hsz, hby⟩ := info_parts By.info
  have hrd := hrow.read
  obtain ⟨r1, r2, r3, cur, r4, r5, r6⟩ := hrow
  refine wpList_plain hgd fun K hK => ?_
  have hwf2 : ∀ x ∈ l ++ news, 0 ≤ x ∧ x ≤ 255 := by
    intro x hx
    rcases List.mem_append.1 hx with hx | hx
    · exact r3 x hx
    · exact hwf x hx
  have hml : (l ++ news).length ≤ maxLen := by rw [List.length_append, hm]; unfold maxLen; omega
  unfold Oper.wp execOp
  simp only [ho, resolve, invoke, builtin, Sem.run_bind, Sem.run_pure, Result.andThen_ok, List.map_toArray, List.map_cons, List.map_nil, hs, hx]
  by_cases hroom : l.length + m ≤ cap
  · have hr := Cv.run_append_mark (P := Try.prog) w 100 o.type 5 i By.u_bytes hi hsz cap (cap + 1) g l.length cap cur r4 ad m c (news.map (Value.int .u8)) (by simpa using hm) hnews (by intro u hu; obtain ⟨x, _, rfl⟩ := List.mem_map.1 hu; rfl) hroom (by omega) (by omega)
    rw [hr]
    refine hK _ _ (h (some ⟨g, 0, none⟩) cap _ ⟨hwf2, hml, fun k hk => ⟨g, 0, rfl, ?_⟩⟩ ⟨rfl, rfl, rfl, by simp, fun k _ hk => setRow_other w g k _ hk⟩ hroom r2)
    have hb := setRow_heap w g cur (cur.toList.take l.length ++ news.map (Value.int .u8) ++ cur.toList.drop (l.length + (news.map (Value.int .u8)).length)).toArray _ _ r4
    rw [Nat.zero_add]
    simp only [World.cell?, hb]
    rw [r6, ← List.map_append]
    simp only [List.getElem?_toArray]
    rw [List.getElem?_append_left (by simpa using hk), List.getElem?_map, List.getElem?_eq_getElem hk, List.getD_eq_getElem?_getD, List.getElem?_eq_getElem hk]
    rfl
  · have hr := run_append_grow (P := Try.prog) w 100 o.type 5 i (.int .u8 0) By.u_bytes hi hz ⟨g, 0, none⟩ l.length cap (l.map (Value.int .u8)) (by rw [hsz]; simp) (by
        intro j v hv
        have hj : j < l.length := by have := (List.getElem?_eq_some_iff.1 hv).1; simpa using this
        obtain ⟨b', off', e, hc⟩ := hrd.cell j hj
        cases e
        rw [List.getElem?_map, List.getElem?_eq_getElem hj] at hv
        cases hv
        rw [Addr.add_lit, hc, List.getD_eq_getElem?_getD, List.getElem?_eq_getElem hj]
        rfl) ad m c (news.map (Value.int .u8)) (by rw [hsz]; simpa using hm) hnews (by omega) (by omega) (growslice_fits (by omega) (by rw [hby]; omega))
    rw [hr]
    refine hK _ _ (h (some ⟨w.heap.size, 0, none⟩) _ _ ⟨hwf2, hml, fun k hk => ⟨w.heap.size, 0, rfl, ?_⟩⟩ ⟨rfl, rfl, rfl, by simp, fun k hk _ => heap_alloc_old w.drew _ hk⟩ (grownCap_ge w _ _ _) (grownCap_le_maxLen w _ _ _ (by unfold maxLen; omega)))
    have hb := heap_alloc_new w.drew (.cells ((l.map (Value.int .u8)).toArray ++ (news.map (Value.int .u8)).toArray ++ Builtin.zeroCells (Value.int .u8 0).cells (grownCap w (l.length + m) cap 5 - (l.length + m))) 5)
    rw [Nat.zero_add]
    have hb' : (w.drew.alloc (.cells ((l.map (Value.int .u8)).toArray ++ (news.map (Value.int .u8)).toArray ++ Builtin.zeroCells (Value.int .u8 0).cells (grownCap w (l.length + m) cap 5 - (l.length + m))) 5)).heap[w.heap.size]? = _ := hb
    simp only [World.cell?, hb']
    show (((l.map (Value.int .u8)).toArray ++ (news.map (Value.int .u8)).toArray) ++ _)[k]? = _
    rw [show (l.map (Value.int .u8)).toArray ++ (news.map (Value.int .u8)).toArray = ((l ++ news).map (Value.int .u8)).toArray from by simp]
    rw [Array.getElem?_append_left (by simpa using hk)]
    simp only [List.getElem?_toArray]
    rw [List.getElem?_map, List.getElem?_eq_getElem hk, List.getD_eq_getElem?_getD, List.getElem?_eq_getElem hk]
    rfl

theorem wpList_conv_text (w : World) (hg : o.guard = none) (dst : TypeId) (x : Operand) (hop : o.op = Op.convert 100 dst x) (hd : Try.prog.underlying dst = some .string) (he : Try.prog.underlying 5 = some (.int .u8)) (ao : Option Addr) (n cap : Nat) (l : List Int) (hx : a.eval x = .slice ao n cap) (hn : n = l.length) (hb : BytesIn w ao l)
    (h : wpList Try.prog ops Q rest (a.put o.dst (.string (textOf l))) w) : wpList Try.prog ops Q (o :: rest) a w := by
  subst hn
  refine wpList_plain hg fun K hK => ?_
  have hrun : (convert 100 dst (.slice ao l.length cap)).run Try.prog w = .ok (.string (textOf l)) w := by
    cases l with
    | nil =>
      rw [show ([] : List Int).length = 0 from rfl, run_convert_bytes_string w 100 dst 5 ao 0 cap By.u_bytes he hd]
      cases ao with
      | none => rfl
      | some a =>
        have hl := run_loadCells_list (P := Try.prog) w a ([] : List Value) (fun j v hj => by cases hj)
        exact run_bytesToString w a 0 cap [] hl
    | cons c r =>
      obtain ⟨b, off, rfl, _⟩ := hb.cell 0 (by simp)
      have := run_convert_bytes_back (P := Try.prog) w 100 dst 5 ⟨b, off, none⟩ cap ((c :: r).map (fun x => UInt8.ofNat x.toNat)) By.u_bytes he hd (by
        intro j hj
        have hj' : j < (c :: r).length := by simpa using hj
        obtain ⟨b', off', e, hc⟩ := hb.cell j hj'
        cases e
        have hw := hb.wf _ (List.getElem_mem hj')
        rw [Addr.add_lit, hc, List.getElem_map, List.getD_eq_getElem?_getD, List.getElem?_eq_getElem hj']
        congr 2
        simp only [Option.getD_some]
        rw [UInt8.toNat_ofNat']
        omega)
      rw [List.length_map] at this
      exact this
  unfold Oper.wp
  simp [execOp, hop, hx, hrun, Result.andThen]
  exact hK _ _ h
end

end Go.Proofs.Ytogeeeigfhmpmaa
