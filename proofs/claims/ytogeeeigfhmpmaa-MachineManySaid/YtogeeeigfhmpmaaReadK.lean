/- Readers behind calls that don't touch them. -/
import Derived.Test.YtogeeeigfhmpmaaRpack
namespace Go.Proofs.Ytogeeeigfhmpmaa
open Go.RowKit
theorem results_cell_tmp {P : Program} {fn : Func} {p u : Tmp} {ty : TypeId} (h : fn.results = #[.cell p ty, .tmp u]) (tmps : Array Value) (w : World) (g : Nat) (t : TypeId) (cs : Array Value) (fr : Nat × Nat) (d : TypeDesc)
    (hp : tmps.getD p undef = .pointer (some ⟨g, 0, none⟩)) (hg : w.heap[g]? = some (.cells cs t fr))
    (hu : P.underlying ty = some d) (hd : (match d with | .struct _ | .array _ _ => true | _ => false) = true) (hi : (P.info? ty).map (·.size) = some cs.size) :
    (results fn tmps).run P w = .ok (.tuple #[.agg cs, tmps.getD u undef]) w := by
  have hp' : tmps[p]?.getD undef = .pointer (some ⟨g, 0, none⟩) := by simpa using hp
  simp [results, h, hp', asAddr, run_loadVar_row w g t ty cs fr d hg hu hd hi]
theorem ReaderAt.keeps {S : Nat → Prop} {w w' : World} {p : Nat} {r : Pk.RD} (h : ReaderAt w p r) (ho : Only S w w') (hs : ¬ S p) : ReaderAt w' p r := ⟨h.1.keeps ho hs, h.2⟩
theorem DReaderAt.keeps {S : Nat → Prop} {w w' : World} {p : Nat} {r : Pk.RD} (h : DReaderAt w p r) (ho : Only S w w') (hs : ¬ S p) : DReaderAt w' p r := ⟨h.1.keeps ho hs, h.2⟩
theorem WriterAt.keeps {S : Nat → Prop} {w w' : World} {base p : Nat} {l : List Int} (h : WriterAt w base p l) (ho : Only S w w') (hs : ∀ k, S k → k < base) : WriterAt w' base p l := by
  obtain ⟨h1, v, h2, h3⟩ := h
  exact ⟨h1, v, h2.keeps ho (fun h => by have := hs _ h; omega), Bts.keeps h3 ho (fun k hk h => by have := hs _ h; have := (World.ownsRow.lt h3 k hk).1; omega)⟩
end Go.Proofs.Ytogeeeigfhmpmaa
