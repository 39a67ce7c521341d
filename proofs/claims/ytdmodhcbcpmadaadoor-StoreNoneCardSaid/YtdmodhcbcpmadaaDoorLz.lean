/- lists of slices of bytes. -/
import Derived.Test.YtdmodhcbcpmadaaDoorSl
set_option linter.unusedSimpArgs false
set_option linter.unusedVariables false
namespace Go.Proofs.YtdmodhcbcpmadaaDoor
open Go.RowKit

/-- a slice of slices that reads as ls. -/
def Ls (w : World) (B : Nat) (A : Option Addr) (ls : List (List UInt8)) : Prop :=
  ∀ i, i < ls.length → ∃ b off, A = some ⟨b, off, none⟩ ∧ b < B ∧ ∃ Ai ci, w.cell? ⟨b, off + i, none⟩ = some (.slice Ai (ls.getD i []).length ci) ∧ Bs w B Ai (ls.getD i []) ∧ (Ai = none → ls.getD i [] = [])
theorem Ls.keep {w w' : World} {B : Nat} {A : Option Addr} {ls : List (List UInt8)} (h : Ls w B A ls) (hk : ∀ b o, b < B → w'.cell? ⟨b, o, none⟩ = w.cell? ⟨b, o, none⟩) : Ls w' B A ls := fun i hi => by
  obtain ⟨b, off, e, hb, Ai, ci, hc, h1, h2⟩ := h i hi
  exact ⟨b, off, e, hb, Ai, ci, (hk b _ hb).trans hc, h1.keep hk, h2⟩
theorem Ls.below {w w' : World} {B : Nat} {A : Option Addr} {ls : List (List UInt8)} (h : Ls w B A ls) (hb : Below B w w') : Ls w' B A ls := h.keep fun b o hbB => hb.cell (p := ⟨b, o, none⟩) hbB
theorem Ls.more {w : World} {B B' : Nat} {A : Option Addr} {ls : List (List UInt8)} (h : Ls w B A ls) (hB : B ≤ B') : Ls w B' A ls := fun i hi => by
  obtain ⟨b, off, e, hb, Ai, ci, hc, h1, h2⟩ := h i hi
  exact ⟨b, off, e, by omega, Ai, ci, hc, h1.more hB, h2⟩
end Go.Proofs.YtdmodhcbcpmadaaDoor
