/- a list of integers that came in. -/
import Derived.Test.YtegekaocbalndaaGreatDoorNum
set_option linter.unusedSimpArgs false
set_option linter.unusedVariables false
namespace Go.Proofs.YtegekaocbalndaaGreatDoor
open Go.RowKit

/-- what a list of integers reads. -/
def Zs (w : World) (B : Nat) (A : Option Addr) (zs : List Int) : Prop := ∀ i, i < zs.length → ∃ b o, A = some ⟨b, o, none⟩ ∧ b < B ∧ w.cell? ⟨b, o + i, none⟩ = some (.int .i64 (zs.getD i 0))
theorem Zs.below {w w' : World} {B : Nat} {A : Option Addr} {zs : List Int} (h : Zs w B A zs) (hb : Below B w w') : Zs w' B A zs := fun i hi => by
  obtain ⟨b, o, e, h1, h2⟩ := h i hi
  exact ⟨b, o, e, h1, (hb.cell (p := ⟨b, o + i, none⟩) h1).trans h2⟩
theorem Zs.more {w : World} {B B' : Nat} {A : Option Addr} {zs : List Int} (h : Zs w B A zs) (hB : B ≤ B') : Zs w B' A zs := fun i hi => by
  obtain ⟨b, o, e, h1, h2⟩ := h i hi
  exact ⟨b, o, e, by omega, h2⟩
/-- each is an int. -/
def Zw (zs : List Int) : Prop := ∀ i, i < zs.length → (-9223372036854775808 : Int) ≤ zs.getD i 0 ∧ zs.getD i 0 ≤ 9223372036854775807
end Go.Proofs.YtegekaocbalndaaGreatDoor
