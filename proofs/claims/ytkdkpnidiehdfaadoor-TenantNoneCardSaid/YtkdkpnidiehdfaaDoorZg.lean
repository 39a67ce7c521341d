/- a table that is nil, or that nobody made. -/
import Derived.Test.YtkdkpnidiehdfaaDoorZe
set_option linter.unusedSimpArgs false
set_option linter.unusedVariables false
namespace Go.Proofs.YtkdkpnidiehdfaaDoor
open Go.RowKit

/-- no table. -/
def NoTab (w : World) (v : Value) : Prop := v = .pointer none ∨ ∃ p, v = .pointer (some ⟨p, 0, none⟩) ∧ w.cell? ⟨p, 1, none⟩ = some (.map none)
theorem NoTab.below {w w' : World} {v : Value} (h : NoTab w v) (hb : Below w.heap.size w w') : NoTab w' v := by
  rcases h with rfl | ⟨p, rfl, h⟩
  · exact .inl rfl
  · exact .inr ⟨p, rfl, (hb.cell (p := ⟨p, 1, none⟩) (World.block_lt_of_cell? _ _ h)).trans h⟩
theorem tnone_no {w : World} {v : Value} (h : NoTab w v) : Calls Tryd.prog 64 #[v] w fun e w' => e = .returned (.bool true) ∧ w' = w := by
  rcases h with rfl | ⟨p, rfl, h⟩
  · exact tnone_nil w
  · exact tnone_odd h
theorem NoTab.shape {w : World} {v : Value} (h : NoTab w v) : ∃ q, v = .pointer q := by
  rcases h with rfl | ⟨p, rfl, h⟩
  · exact ⟨_, rfl⟩
  · exact ⟨_, rfl⟩
section
variable {w : World} {v : Value}
set_option maxRecDepth 100000 in
theorem tauth_no (h : NoTab w v) (x y : Value) : Calls Tryd.prog 42 #[v, x, y] w fun e w' => e = .returned (.tuple #[.int .i64 0, .int .i64 1]) ∧ Below w.heap.size w w' := by
  have H := Lib.hid (tnone_no h)
  clear h
  go_enter Tryd.func42, Tryd.ntmps42
  go_wp2_with fail
  refine H.out.mono ?_
  rintro e w1 ⟨rfl, hw1⟩
  rw [hw1]
  clear hw1
  go_wp2_with fail
  go_ret2
  exact ⟨rfl, Below.refl _ _⟩
set_option maxRecDepth 100000 in
theorem twho_no (h : NoTab w v) (x : Value) : Calls Tryd.prog 43 #[v, x] w fun e w' => e = .returned (.tuple #[.int .i64 0, .bool false]) ∧ Below w.heap.size w w' := by
  have H := Lib.hid (tnone_no h)
  clear h
  go_enter Tryd.func43, Tryd.ntmps43
  go_wp2_with fail
  refine H.out.mono ?_
  rintro e w1 ⟨rfl, hw1⟩
  rw [hw1]
  clear hw1
  go_wp2_with fail
  go_ret2
  exact ⟨rfl, Below.refl _ _⟩
set_option maxRecDepth 100000 in
theorem tleave_no (h : NoTab w v) (x : Value) : Calls Tryd.prog 44 #[v, x] w fun e w' => e = .returned (.int .i64 1) ∧ Below w.heap.size w w' := by
  have H := Lib.hid (tnone_no h)
  clear h
  go_enter Tryd.func44, Tryd.ntmps44
  go_wp2_with fail
  refine H.out.mono ?_
  rintro e w1 ⟨rfl, hw1⟩
  rw [hw1]
  clear hw1
  go_wp2_with fail
  go_ret
  exact ⟨rfl, Below.refl _ _⟩
set_option maxRecDepth 100000 in
theorem tlen_no (h : NoTab w v) : Calls Tryd.prog 52 #[v] w fun e w' => e = .returned (.int .i64 0) ∧ Below w.heap.size w w' := by
  have H := Lib.hid (tnone_no h)
  clear h
  go_enter Tryd.func52, Tryd.ntmps52
  go_wp2_with fail
  refine H.out.mono ?_
  rintro e w1 ⟨rfl, hw1⟩
  rw [hw1]
  clear hw1
  go_wp2_with fail
  go_ret
  exact ⟨rfl, Below.refl _ _⟩
set_option maxRecDepth 100000 in
theorem tclear_no (h : NoTab w v) : Calls Tryd.prog 50 #[v] w fun e w' => e = .returned (.int .i64 1) ∧ Below w.heap.size w w' := by
  have H := Lib.hid (tnone_no h)
  clear h
  go_enter Tryd.func50, Tryd.ntmps50
  go_wp2_with fail
  refine H.out.mono ?_
  rintro e w1 ⟨rfl, hw1⟩
  rw [hw1]
  clear hw1
  go_wp2_with fail
  go_ret
  exact ⟨rfl, Below.refl _ _⟩
set_option maxRecDepth 100000 in
theorem tconns_no (h : NoTab w v) (i : Int) : Calls Tryd.prog 41 #[v, .int .i64 i] w fun e w' => e = .returned (.slice none 0 0) ∧ Below w.heap.size w w' := by
  obtain ⟨q, rfl⟩ := h.shape
  have HN := Lib.hid h
  clear h
  go_enter Tryd.func41, Tryd.ntmps41
  have hB1 := ((Below.refl _ w).alloc (Nat.le_refl _) (.cells #[.pointer q] 64)).alloc (by simp) (.cells #[.int .i64 i] 3)
  have b1 := (Boxed.new w 64 (.pointer q)).alloc (.cells #[.int .i64 i] 3)
  generalize hw1 : (w.alloc (.cells #[.pointer q] 64)).alloc (.cells #[.int .i64 i] 3) = w1 at *
  have HB1 := Lib.hid hB1
  have c1 := b1.cell
  have H := Lib.hid (tnone_no (HN.out.below hB1))
  clear hB1 b1
  go_wp2_with fail
  refine H.out.mono ?_
  rintro e w2 ⟨rfl, hw2⟩
  rw [hw2]
  clear hw2
  go_wp2_with fail
  go_ret
  exact ⟨rfl, HB1.out⟩
end
end Go.Proofs.YtkdkpnidiehdfaaDoor
