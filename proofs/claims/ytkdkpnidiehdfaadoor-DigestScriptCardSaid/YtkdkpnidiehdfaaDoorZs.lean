/- a slice of numbers. -/
import Derived.Test.YtkdkpnidiehdfaaDoorHash
set_option linter.unusedSimpArgs false
set_option linter.unusedVariables false
namespace Go.Proofs.YtkdkpnidiehdfaaDoor
open Go.RowKit

/-- numbers that came in. -/
def Zs (w : World) (B : Nat) (A : Option Addr) (zs : List Int) : Prop :=
  ∀ i, i < zs.length → ∃ b off, A = some ⟨b, off, none⟩ ∧ b < B ∧ w.cell? ⟨b, off + i, none⟩ = some (.int .i64 (zs.getD i 0)) ∧ -9223372036854775808 ≤ zs.getD i 0 ∧ zs.getD i 0 ≤ 9223372036854775807
theorem Zs.keep {w w' : World} {B : Nat} {A : Option Addr} {zs : List Int} (h : Zs w B A zs) (hk : ∀ b o, b < B → w'.cell? ⟨b, o, none⟩ = w.cell? ⟨b, o, none⟩) : Zs w' B A zs := fun i hi => by
  obtain ⟨b, off, e, hb, hc, h1, h2⟩ := h i hi
  exact ⟨b, off, e, hb, (hk b _ hb).trans hc, h1, h2⟩
end Go.Proofs.YtkdkpnidiehdfaaDoor
