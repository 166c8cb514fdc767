/- The store's records: what the program writes for a vote, an entry, a cut, a snapshot. -/
import Derived.Test.YtekmjhenhgmpgaaPackR
import Derived.Test.YtekmjhenhgmpgaaEnts
import Derived.Deep.RegionHeld3
import Derived.Test.YtekmjhenhgmpgaaBegun4
namespace Go.Proofs.Ytekmjhenhgmpgaa
open Go.RowKit
set_option maxRecDepth 100000

/-- a vote, a snapshot -/
structure Hrd where
  term : Nat
  vote : Int
structure Snp where
  index : Nat
  term : Nat
  config : Nat
  data : ByteArray
structure Hrd.Wf (h : Hrd) : Prop where
  term : h.term < 18446744073709551616
  vote : (Lit.int .i64 h.vote).wf = true
structure Snp.Wf (s : Snp) : Prop where
  index : s.index < 18446744073709551616
  term : s.term < 18446744073709551616
  config : s.config < 18446744073709551616
  data : s.data.size ≤ 140737488351232
def Hrd.val (h : Hrd) : Value := .agg #[.int .u64 h.term, .int .i64 h.vote]
def Snp.val (s : Snp) : Value := .agg #[.int .u64 s.index, .int .u64 s.term, .int .u64 s.config, .string s.data]

/-- an int as a number of 64 bits -/
def u64 (x : Int) : Nat := (x % 18446744073709551616).toNat
theorem u64_lt (x : Int) : u64 x < 18446744073709551616 := by unfold u64; omega
namespace Rc
def hard (h : Hrd) : List Int := Pk.num 1 ++ Pk.num h.term ++ Pk.num (u64 (h.vote + 1))
def entry (e : Ent) : List Int := Pk.num 2 ++ Pk.num e.term ++ Pk.num e.index ++ Pk.num (u64 e.kind) ++ Pk.text (nums e.data)
def cut (i : Nat) : List Int := Pk.num 3 ++ Pk.num i
def snap (s : Snp) : List Int := Pk.num 4 ++ Pk.num s.index ++ Pk.num s.term ++ Pk.num s.config ++ Pk.text (nums s.data)
end Rc

theorem WriterAt.new (w : World) : WriterAt (w.alloc (.cells #[.slice none 0 0] 139)) w.heap.size w.heap.size [] :=
  ⟨Nat.le_refl _, _, Blk.made w _ _, Bts.nil _ _⟩
theorem num_len {x : Nat} (h : x < 18446744073709551616) : (Pk.num x).length ≤ 9 := by rw [Pk.num_length]; have := Pk.size_le8 h; omega

theorem cutrec_at (w : World) (i : Nat) (hi : i < 18446744073709551616) :
    Calls Try.prog 47 #[.int .u64 i] w fun e w' => e = .returned (.string (textOf (Rc.cut i))) ∧ Only NoBlock w w' := by
  go_enter Try.func47, Try.ntmps47
  go_wp2_with fail
  refine (wnum_at _ _ _ [] (WriterAt.new w) 3 (by omega) (by simp)).mono ?_
  rintro e w1 ⟨rfl, hW1, hO1⟩
  go_wp2_with fail
  refine (wnum_at w1 _ _ _ hW1 i hi (by have := num_len (x := 3) (by omega); rw [List.nil_append]; omega)).mono ?_
  rintro e w2 ⟨rfl, hW2, hO2⟩
  go_wp2_with fail
  refine (wbytes_at w2 _ _ _ hW2 ?_).mono ?_
  · intro c hc
    simp only [List.nil_append, List.mem_append] at hc
    rcases hc with hc | hc
    · exact Pk.num_byte (by omega) c hc
    · exact Pk.num_byte hi c hc
  rintro e w3 ⟨rfl, rfl⟩
  go_wp2_with fail
  go_ret
  exact ⟨rfl, ((Only.refl NoBlock w).alloc _).andThen (hO1.trans hO2) (fun k hk h => by have h' : w.heap.size ≤ k := h; omega)⟩

theorem u64_of {x : Int} (h0 : 0 ≤ x) (h1 : x < 18446744073709551616) : ((u64 x : Nat) : Int) = x := by unfold u64; omega

theorem keep5 {w w' : World} {base b off : Nat} {v : Value} (ho : Only (fun k => base ≤ k) w w') (hb : b < base) (h : w.cell? ⟨b, off, none⟩ = some v) : w'.cell? ⟨b, off, none⟩ = some v := by
  have hlt := World.block_lt_of_cell? w _ h
  have := ho.block b hlt (fun e => by have e' : base ≤ b := e; omega)
  rw [← h]
  simp [World.cell?, this]
theorem Rc.hard_byte' {term : Nat} {vote : Int} (ht : term < 18446744073709551616) : ∀ c ∈ [] ++ Pk.num 1 ++ Pk.num term ++ Pk.num (u64 (vote + 1)), 0 ≤ c ∧ c ≤ 255 := by
  intro c hc
  simp only [List.nil_append, List.mem_append] at hc
  rcases hc with (hc | hc) | hc
  · exact Pk.num_byte (by omega) c hc
  · exact Pk.num_byte ht c hc
  · exact Pk.num_byte (u64_lt _) c hc
theorem u64_conv (vote : Int) (hv0 : -9223372036854775808 ≤ vote) (hv1 : vote ≤ 9223372036854775807) : IntKind.u64.wrap (IntKind.i64.wrap (vote + 1)) = ((u64 (vote + 1) : Nat) : Int) := by
  unfold u64
  rw [IntKind.wrap_u64]
  by_cases h : vote = 9223372036854775807
  · subst h; decide
  · rw [IntWalk.i64_in _ (by omega)]; omega

set_option maxHeartbeats 400000 in
theorem hardrec_at (w : World) (term : Nat) (vote : Int) (ht : term < 18446744073709551616) (hv0 : -9223372036854775808 ≤ vote) (hv1 : vote ≤ 9223372036854775807) :
    Calls Try.prog 45 #[.agg #[.int .u64 term, .int .i64 vote]] w fun e w' => e = .returned (.string (textOf (Rc.hard ⟨term, vote⟩))) ∧ Only NoBlock w w' := by
  go_enter Try.func45, Try.ntmps45
  go_wp2_with fail
  have hbx := Blk.made w #[.int .u64 term, .int .i64 vote] 37
  have hn := (Only.refl NoBlock w).alloc (Obj.cells #[.int .u64 term, .int .i64 vote] 37)
  have hsz : (w.alloc (Obj.cells #[.int .u64 term, .int .i64 vote] 37)).heap.size = w.heap.size + 1 := by simp
  generalize w.alloc (Obj.cells #[.int .u64 term, .int .i64 vote] 37) = w1 at hbx hn hsz ⊢
  have b0 : w1.cell? ⟨w.heap.size, 0, none⟩ = some (.int .u64 term) := by rw [hbx.cell]; rfl
  have b1 : w1.cell? ⟨w.heap.size, 1, none⟩ = some (.int .i64 vote) := by rw [hbx.cell]; rfl
  have hconv := u64_conv vote hv0 hv1
  have hV0 : WriterAt (w1.drew.alloc (.cells #[.slice none 0 0] 139)) (w.heap.size + 1) (w.heap.size + 1) [] := by rw [← hsz]; exact WriterAt.new w1.drew
  have hA : Only NoBlock w1 (w1.drew.alloc (.cells #[.slice none 0 0] 139)) := ((Only.refl NoBlock w1).drew).alloc _
  have q0_0 : (w1.drew.alloc (.cells #[.slice none 0 0] 139)).cell? ⟨w.heap.size, 0, none⟩ = some (.int .u64 term) := by rw [(hbx.keeps hA (fun h => h)).cell]; rfl
  have q0_1 : (w1.drew.alloc (.cells #[.slice none 0 0] 139)).cell? ⟨w.heap.size, 1, none⟩ = some (.int .i64 vote) := by rw [(hbx.keeps hA (fun h => h)).cell]; rfl
  have s0 := Pk.size_le8 (x := 1) (by omega)
  have s1 := Pk.size_le8 (x := term) ht
  have s2 := Pk.size_le8 (x := (u64 (vote + 1))) (u64_lt _)
  have hbyte : ∀ c ∈ [] ++ Pk.num 1 ++ Pk.num term ++ Pk.num (u64 (vote + 1)), 0 ≤ c ∧ c ≤ 255 := by
    intro c hc
    simp only [List.nil_append, List.mem_append, Pk.text] at hc
    rcases hc with (hc | hc) | hc
    · exact Pk.num_byte (by omega) c hc
    · exact Pk.num_byte ht c hc
    · exact Pk.num_byte (u64_lt _) c hc
  have heq : textOf (Pk.num 1 ++ (Pk.num term ++ Pk.num (u64 (vote + 1)))) = textOf (Rc.hard ⟨term, vote⟩) := by unfold Rc.hard; simp only [List.append_assoc]
  have HEQ := Lib.hid heq
  clear heq
  go_region_held3 (fun w' => w'.cell? ⟨w.heap.size, 0, none⟩ = some (.int .u64 term) ∧ w'.cell? ⟨w.heap.size, 1, none⟩ = some (.int .i64 vote))
    (first | exact ⟨b0, b1⟩ | exact ⟨by assumption, by assumption⟩ | go_keep)
    (first
      | (go_at_call 72; refine (wnum_at _ _ _ _ hV2 (u64 (vote + 1)) (u64_lt _) (by simp [Pk.num_length]; omega)).mono ?_; rintro e w4 ⟨rfl, hV3, hP3⟩; clear hV2; have q3_0 := keep5 hP3 (by omega) q2_0; have q3_1 := keep5 hP3 (by omega) q2_1)
      | (go_at_call 72; refine (wnum_at _ _ _ _ hV1 term ht (by simp [Pk.num_length]; omega)).mono ?_; rintro e w3 ⟨rfl, hV2, hP2⟩; clear hV1; have q2_0 := keep5 hP2 (by omega) q1_0; have q2_1 := keep5 hP2 (by omega) q1_1)
      | (go_at_call 72; refine (wnum_at _ _ _ _ hV0 1 (by omega) (by simp [Pk.num_length])).mono ?_; rintro e w2 ⟨rfl, hV1, hP1⟩; clear hV0; have q1_0 := keep5 hP1 (by omega) q0_0; have q1_1 := keep5 hP1 (by omega) q0_1)
      | (go_at_call 73; refine (wbytes_at _ _ _ _ hV3 hbyte).mono ?_; rintro e w5 ⟨rfl, rfl⟩))
  go_wp2_with fail
  go_ret
  exact ⟨by rw [← HEQ.out]; rfl, (hn.trans hA).andThen (((hP1).trans hP2).trans hP3) (fun k hk h => by have h' : w.heap.size + 1 ≤ k := h; omega)⟩

set_option maxHeartbeats 400000 in
theorem entryrec_at (w : World) (term index : Nat) (kind : Int) (data : ByteArray) (ht : term < 18446744073709551616) (hi : index < 18446744073709551616) (hd : data.size ≤ 1000000000000) :
    Calls Try.prog 48 #[.agg #[.int .u64 term, .int .u64 index, .int .i64 kind, .string data]] w fun e w' => e = .returned (.string (textOf (Rc.entry ⟨term, index, kind, data⟩))) ∧ Only NoBlock w w' := by
  go_enter Try.func48, Try.ntmps48
  go_wp2_with fail
  have hbx := Blk.made w #[.int .u64 term, .int .u64 index, .int .i64 kind, .string data] 77
  have hn := (Only.refl NoBlock w).alloc (Obj.cells #[.int .u64 term, .int .u64 index, .int .i64 kind, .string data] 77)
  have hsz : (w.alloc (Obj.cells #[.int .u64 term, .int .u64 index, .int .i64 kind, .string data] 77)).heap.size = w.heap.size + 1 := by simp
  generalize w.alloc (Obj.cells #[.int .u64 term, .int .u64 index, .int .i64 kind, .string data] 77) = w1 at hbx hn hsz ⊢
  have b0 : w1.cell? ⟨w.heap.size, 0, none⟩ = some (.int .u64 term) := by rw [hbx.cell]; rfl
  have b1 : w1.cell? ⟨w.heap.size, 1, none⟩ = some (.int .u64 index) := by rw [hbx.cell]; rfl
  have b2 : w1.cell? ⟨w.heap.size, 2, none⟩ = some (.int .i64 kind) := by rw [hbx.cell]; rfl
  have b3 : w1.cell? ⟨w.heap.size, 3, none⟩ = some (.string data) := by rw [hbx.cell]; rfl
  have hconv : IntKind.u64.wrap kind = ((u64 kind : Nat) : Int) := by rw [IntKind.wrap_u64]; unfold u64; omega
  have hV0 : WriterAt (w1.drew.alloc (.cells #[.slice none 0 0] 139)) (w.heap.size + 1) (w.heap.size + 1) [] := by rw [← hsz]; exact WriterAt.new w1.drew
  have hA : Only NoBlock w1 (w1.drew.alloc (.cells #[.slice none 0 0] 139)) := ((Only.refl NoBlock w1).drew).alloc _
  have q0_0 : (w1.drew.alloc (.cells #[.slice none 0 0] 139)).cell? ⟨w.heap.size, 0, none⟩ = some (.int .u64 term) := by rw [(hbx.keeps hA (fun h => h)).cell]; rfl
  have q0_1 : (w1.drew.alloc (.cells #[.slice none 0 0] 139)).cell? ⟨w.heap.size, 1, none⟩ = some (.int .u64 index) := by rw [(hbx.keeps hA (fun h => h)).cell]; rfl
  have q0_2 : (w1.drew.alloc (.cells #[.slice none 0 0] 139)).cell? ⟨w.heap.size, 2, none⟩ = some (.int .i64 kind) := by rw [(hbx.keeps hA (fun h => h)).cell]; rfl
  have q0_3 : (w1.drew.alloc (.cells #[.slice none 0 0] 139)).cell? ⟨w.heap.size, 3, none⟩ = some (.string data) := by rw [(hbx.keeps hA (fun h => h)).cell]; rfl
  have s0 := Pk.size_le8 (x := 2) (by omega)
  have s1 := Pk.size_le8 (x := term) ht
  have s2 := Pk.size_le8 (x := index) hi
  have s3 := Pk.size_le8 (x := (u64 kind)) (u64_lt _)
  have hbyte : ∀ c ∈ [] ++ Pk.num 2 ++ Pk.num term ++ Pk.num index ++ Pk.num (u64 kind) ++ Pk.text (nums data), 0 ≤ c ∧ c ≤ 255 := by
    intro c hc
    simp only [List.nil_append, List.mem_append, Pk.text] at hc
    rcases hc with (((hc | hc) | hc) | hc) | (hc | hc)
    · exact Pk.num_byte (by omega) c hc
    · exact Pk.num_byte ht c hc
    · exact Pk.num_byte hi c hc
    · exact Pk.num_byte (u64_lt _) c hc
    · exact Pk.num_byte (by rw [nums_length]; omega) c hc
    · exact nums_byte _ c hc
  have heq : textOf (Pk.num 2 ++ (Pk.num term ++ (Pk.num index ++ (Pk.num (u64 kind) ++ Pk.text (nums data))))) = textOf (Rc.entry ⟨term, index, kind, data⟩) := by unfold Rc.entry; simp only [List.append_assoc]
  have HEQ := Lib.hid heq
  clear heq
  go_region_held3 (fun w' => w'.cell? ⟨w.heap.size, 0, none⟩ = some (.int .u64 term) ∧ w'.cell? ⟨w.heap.size, 1, none⟩ = some (.int .u64 index) ∧ w'.cell? ⟨w.heap.size, 2, none⟩ = some (.int .i64 kind) ∧ w'.cell? ⟨w.heap.size, 3, none⟩ = some (.string data))
    (first | exact ⟨b0, b1, b2, b3⟩ | exact ⟨by assumption, by assumption, by assumption, by assumption⟩ | go_keep)
    (first
      | (go_at_call 74; refine (wtext_at _ _ _ _ hV4 data hd (by simp [Pk.num_length]; omega)).mono ?_; rintro e w6 ⟨rfl, hV5, hP5⟩; clear hV4; have q5_0 := keep5 hP5 (by omega) q4_0; have q5_1 := keep5 hP5 (by omega) q4_1; have q5_2 := keep5 hP5 (by omega) q4_2; have q5_3 := keep5 hP5 (by omega) q4_3)
      | (go_at_call 72; refine (wnum_at _ _ _ _ hV3 (u64 kind) (u64_lt _) (by simp [Pk.num_length]; omega)).mono ?_; rintro e w5 ⟨rfl, hV4, hP4⟩; clear hV3; have q4_0 := keep5 hP4 (by omega) q3_0; have q4_1 := keep5 hP4 (by omega) q3_1; have q4_2 := keep5 hP4 (by omega) q3_2; have q4_3 := keep5 hP4 (by omega) q3_3)
      | (go_at_call 72; refine (wnum_at _ _ _ _ hV2 index hi (by simp [Pk.num_length]; omega)).mono ?_; rintro e w4 ⟨rfl, hV3, hP3⟩; clear hV2; have q3_0 := keep5 hP3 (by omega) q2_0; have q3_1 := keep5 hP3 (by omega) q2_1; have q3_2 := keep5 hP3 (by omega) q2_2; have q3_3 := keep5 hP3 (by omega) q2_3)
      | (go_at_call 72; refine (wnum_at _ _ _ _ hV1 term ht (by simp [Pk.num_length]; omega)).mono ?_; rintro e w3 ⟨rfl, hV2, hP2⟩; clear hV1; have q2_0 := keep5 hP2 (by omega) q1_0; have q2_1 := keep5 hP2 (by omega) q1_1; have q2_2 := keep5 hP2 (by omega) q1_2; have q2_3 := keep5 hP2 (by omega) q1_3)
      | (go_at_call 72; refine (wnum_at _ _ _ _ hV0 2 (by omega) (by simp [Pk.num_length])).mono ?_; rintro e w2 ⟨rfl, hV1, hP1⟩; clear hV0; have q1_0 := keep5 hP1 (by omega) q0_0; have q1_1 := keep5 hP1 (by omega) q0_1; have q1_2 := keep5 hP1 (by omega) q0_2; have q1_3 := keep5 hP1 (by omega) q0_3)
      | (go_at_call 73; refine (wbytes_at _ _ _ _ hV5 hbyte).mono ?_; rintro e w7 ⟨rfl, rfl⟩))
  go_wp2_with fail
  go_ret
  exact ⟨by rw [← HEQ.out]; rfl, (hn.trans hA).andThen (((((hP1).trans hP2).trans hP3).trans hP4).trans hP5) (fun k hk h => by have h' : w.heap.size + 1 ≤ k := h; omega)⟩

set_option maxHeartbeats 400000 in
theorem snaprec_at (w : World) (index term config : Nat) (data : ByteArray) (hi : index < 18446744073709551616) (ht : term < 18446744073709551616) (hcf : config < 18446744073709551616) (hd : data.size ≤ 1000000000000) :
    Calls Try.prog 51 #[.agg #[.int .u64 index, .int .u64 term, .int .u64 config, .string data]] w fun e w' => e = .returned (.string (textOf (Rc.snap ⟨index, term, config, data⟩))) ∧ Only NoBlock w w' := by
  go_enter Try.func51, Try.ntmps51
  go_wp2_with fail
  have hbx := Blk.made w #[.int .u64 index, .int .u64 term, .int .u64 config, .string data] 39
  have hn := (Only.refl NoBlock w).alloc (Obj.cells #[.int .u64 index, .int .u64 term, .int .u64 config, .string data] 39)
  have hsz : (w.alloc (Obj.cells #[.int .u64 index, .int .u64 term, .int .u64 config, .string data] 39)).heap.size = w.heap.size + 1 := by simp
  generalize w.alloc (Obj.cells #[.int .u64 index, .int .u64 term, .int .u64 config, .string data] 39) = w1 at hbx hn hsz ⊢
  have b0 : w1.cell? ⟨w.heap.size, 0, none⟩ = some (.int .u64 index) := by rw [hbx.cell]; rfl
  have b1 : w1.cell? ⟨w.heap.size, 1, none⟩ = some (.int .u64 term) := by rw [hbx.cell]; rfl
  have b2 : w1.cell? ⟨w.heap.size, 2, none⟩ = some (.int .u64 config) := by rw [hbx.cell]; rfl
  have b3 : w1.cell? ⟨w.heap.size, 3, none⟩ = some (.string data) := by rw [hbx.cell]; rfl
  have hV0 : WriterAt (w1.drew.alloc (.cells #[.slice none 0 0] 139)) (w.heap.size + 1) (w.heap.size + 1) [] := by rw [← hsz]; exact WriterAt.new w1.drew
  have hA : Only NoBlock w1 (w1.drew.alloc (.cells #[.slice none 0 0] 139)) := ((Only.refl NoBlock w1).drew).alloc _
  have q0_0 : (w1.drew.alloc (.cells #[.slice none 0 0] 139)).cell? ⟨w.heap.size, 0, none⟩ = some (.int .u64 index) := by rw [(hbx.keeps hA (fun h => h)).cell]; rfl
  have q0_1 : (w1.drew.alloc (.cells #[.slice none 0 0] 139)).cell? ⟨w.heap.size, 1, none⟩ = some (.int .u64 term) := by rw [(hbx.keeps hA (fun h => h)).cell]; rfl
  have q0_2 : (w1.drew.alloc (.cells #[.slice none 0 0] 139)).cell? ⟨w.heap.size, 2, none⟩ = some (.int .u64 config) := by rw [(hbx.keeps hA (fun h => h)).cell]; rfl
  have q0_3 : (w1.drew.alloc (.cells #[.slice none 0 0] 139)).cell? ⟨w.heap.size, 3, none⟩ = some (.string data) := by rw [(hbx.keeps hA (fun h => h)).cell]; rfl
  have s0 := Pk.size_le8 (x := 4) (by omega)
  have s1 := Pk.size_le8 (x := index) hi
  have s2 := Pk.size_le8 (x := term) ht
  have s3 := Pk.size_le8 (x := config) hcf
  have hbyte : ∀ c ∈ [] ++ Pk.num 4 ++ Pk.num index ++ Pk.num term ++ Pk.num config ++ Pk.text (nums data), 0 ≤ c ∧ c ≤ 255 := by
    intro c hc
    simp only [List.nil_append, List.mem_append, Pk.text] at hc
    rcases hc with (((hc | hc) | hc) | hc) | (hc | hc)
    · exact Pk.num_byte (by omega) c hc
    · exact Pk.num_byte hi c hc
    · exact Pk.num_byte ht c hc
    · exact Pk.num_byte hcf c hc
    · exact Pk.num_byte (by rw [nums_length]; omega) c hc
    · exact nums_byte _ c hc
  have heq : textOf (Pk.num 4 ++ (Pk.num index ++ (Pk.num term ++ (Pk.num config ++ Pk.text (nums data))))) = textOf (Rc.snap ⟨index, term, config, data⟩) := by unfold Rc.snap; simp only [List.append_assoc]
  have HEQ := Lib.hid heq
  clear heq
  go_region_held3 (fun w' => w'.cell? ⟨w.heap.size, 0, none⟩ = some (.int .u64 index) ∧ w'.cell? ⟨w.heap.size, 1, none⟩ = some (.int .u64 term) ∧ w'.cell? ⟨w.heap.size, 2, none⟩ = some (.int .u64 config) ∧ w'.cell? ⟨w.heap.size, 3, none⟩ = some (.string data))
    (first | exact ⟨b0, b1, b2, b3⟩ | exact ⟨by assumption, by assumption, by assumption, by assumption⟩ | go_keep)
    (first
      | (go_at_call 74; refine (wtext_at _ _ _ _ hV4 data hd (by simp [Pk.num_length]; omega)).mono ?_; rintro e w6 ⟨rfl, hV5, hP5⟩; clear hV4; have q5_0 := keep5 hP5 (by omega) q4_0; have q5_1 := keep5 hP5 (by omega) q4_1; have q5_2 := keep5 hP5 (by omega) q4_2; have q5_3 := keep5 hP5 (by omega) q4_3)
      | (go_at_call 72; refine (wnum_at _ _ _ _ hV3 config hcf (by simp [Pk.num_length]; omega)).mono ?_; rintro e w5 ⟨rfl, hV4, hP4⟩; clear hV3; have q4_0 := keep5 hP4 (by omega) q3_0; have q4_1 := keep5 hP4 (by omega) q3_1; have q4_2 := keep5 hP4 (by omega) q3_2; have q4_3 := keep5 hP4 (by omega) q3_3)
      | (go_at_call 72; refine (wnum_at _ _ _ _ hV2 term ht (by simp [Pk.num_length]; omega)).mono ?_; rintro e w4 ⟨rfl, hV3, hP3⟩; clear hV2; have q3_0 := keep5 hP3 (by omega) q2_0; have q3_1 := keep5 hP3 (by omega) q2_1; have q3_2 := keep5 hP3 (by omega) q2_2; have q3_3 := keep5 hP3 (by omega) q2_3)
      | (go_at_call 72; refine (wnum_at _ _ _ _ hV1 index hi (by simp [Pk.num_length]; omega)).mono ?_; rintro e w3 ⟨rfl, hV2, hP2⟩; clear hV1; have q2_0 := keep5 hP2 (by omega) q1_0; have q2_1 := keep5 hP2 (by omega) q1_1; have q2_2 := keep5 hP2 (by omega) q1_2; have q2_3 := keep5 hP2 (by omega) q1_3)
      | (go_at_call 72; refine (wnum_at _ _ _ _ hV0 4 (by omega) (by simp [Pk.num_length])).mono ?_; rintro e w2 ⟨rfl, hV1, hP1⟩; clear hV0; have q1_0 := keep5 hP1 (by omega) q0_0; have q1_1 := keep5 hP1 (by omega) q0_1; have q1_2 := keep5 hP1 (by omega) q0_2; have q1_3 := keep5 hP1 (by omega) q0_3)
      | (go_at_call 73; refine (wbytes_at _ _ _ _ hV5 hbyte).mono ?_; rintro e w7 ⟨rfl, rfl⟩))
  go_wp2_with fail
  go_ret
  exact ⟨by rw [← HEQ.out]; rfl, (hn.trans hA).andThen (((((hP1).trans hP2).trans hP3).trans hP4).trans hP5) (fun k hk h => by have h' : w.heap.size + 1 ≤ k := h; omega)⟩

end Go.Proofs.Ytekmjhenhgmpgaa
