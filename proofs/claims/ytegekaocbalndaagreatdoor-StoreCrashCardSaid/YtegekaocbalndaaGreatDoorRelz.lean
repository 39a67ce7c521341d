/- drawn regions: what all steps share. -/
import Derived.Test.YtegekaocbalndaaGreatDoorMg2
import Derived.Test.YtegekaocbalndaaGreatDoorMg1
set_option linter.unusedSimpArgs false
set_option linter.unusedVariables false
namespace Go.Proofs.YtegekaocbalndaaGreatDoor
open Go.RowKit
attribute [go_sem] relOp relUpon
@[go_sem] theorem ttHolds_inl (c v : Value) (w : World) : ttHolds (.inl c) v w = (v = c) := rfl
@[go_sem] theorem ttHolds_inr (F : Value → World → Prop) (v : Value) (w : World) : ttHolds (.inr F) v w = F v w := rfl
theorem below_alloc (w : World) (o : Obj) : Below w.heap.size w (w.alloc o) := (Below.refl _ _).alloc (Nat.le_refl _) _
end Go.Proofs.YtegekaocbalndaaGreatDoor
