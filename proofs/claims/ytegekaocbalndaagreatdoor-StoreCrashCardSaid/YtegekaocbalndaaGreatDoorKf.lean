import Derived.Test.YtegekaocbalndaaGreatDoorMg1
import Derived.Test.YtegekaocbalndaaGreatDoorProg
set_option linter.unusedSimpArgs false
set_option linter.unusedVariables false
namespace Go.Proofs.YtegekaocbalndaaGreatDoor
open Go.RowKit

theorem E5 : El Tryz.prog 30 5 (.int .u8 0) 1 := ⟨Tryz.underlying30, by kernel_rfl, rfl⟩

/-- the marks behind a slice of n bytes that is lent. -/
def mark (i : Nat) : UInt8 := UInt8.ofNat (160 + i % 90)
def marks (n : Nat) : List UInt8 := [mark n, mark (n + 1), mark (n + 2)]
def lentL (l : List UInt8) (k : Nat) : List UInt8 := l ++ ((marks l.length).take k ++ List.replicate (3 - k) 0)
theorem lentL_three (l : List UInt8) : lentL l 3 = l ++ marks l.length := by simp [lentL, marks]
theorem lentL_length (l : List UInt8) (k : Nat) (h : k ≤ 3) : (lentL l k).length = l.length + 3 := by simp [lentL, marks]; omega
theorem lentL_set (l : List UInt8) (k : Nat) (h : k < 3) : (bcells (lentL l k)).set (l.length + k) (.int .u8 (160 + ((l.length + k : Nat) : Int) % 90)) = bcells (lentL l (k + 1)) := by
  have e : Value.int .u8 (160 + ((l.length + k : Nat) : Int) % 90) = .int .u8 ((mark (l.length + k)).toNat : Int) := by
    congr 1
    simp only [mark, UInt8.toNat_ofNat']
    omega
  rw [e]
  simp only [bcells, ← List.map_set]
  congr 1
  simp only [lentL]
  rw [List.set_append_right _ _ (by omega), Nat.add_sub_cancel_left]
  match k, h with
  | 0, _ | 1, _ | 2, _ => rfl
  | n + 3, h => omega

end Go.Proofs.YtegekaocbalndaaGreatDoor
