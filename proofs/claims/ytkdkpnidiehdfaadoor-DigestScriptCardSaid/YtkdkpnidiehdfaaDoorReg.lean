/- drawn regions: more steps. -/
import Derived.Test.YtkdkpnidiehdfaaDoorReld
import Derived.Test.YtkdkpnidiehdfaaDoorLi
set_option linter.unusedSimpArgs false
set_option linter.unusedVariables false
namespace Go.Proofs.YtkdkpnidiehdfaaDoor
open Go.RowKit

theorem rel_row {P : Program} {ops : Array Oper} {o : Oper} {a : Act} {w0 W : World} (hw : Region.wanted o (yielded ops a.tmps) = true) (ty : TypeId) (x : Operand) (ho : o.op = .load ty x)
    (g : Nat) (hx : a.eval x = .pointer (some ⟨g, 0, none⟩)) (t : TypeId) (l : List UInt8) (fr : Nat × Nat) (d : TypeDesc) (hg : W.heap[g]? = some (.cells (bcells l).toArray t fr))
    (hu : P.underlying ty = some d) (hd : (match d with | .struct _ | .array _ _ => true | _ => false) = true) (hi : (P.info? ty).map (·.size) = some l.length) : relOp P w0.heap.size ops o a (.inl (dg l)) W := by
  unfold relOp
  rw [if_pos hw]
  have hr : (execOp a.eval o).run P W = .ok (.value (.agg (bcells l).toArray)) W := by
    unfold execOp
    simp only [ho, hx, Instr.loadAt, Instr.sureAddr, Sem.run_bind, Sem.run_pure, Result.andThen_ok, run_loadVar_row W g t ty (bcells l).toArray fr d hg hu hd (by simpa [bcells] using hi)]
  rw [hr]
  exact ⟨Stay.refl _ _, rfl⟩
/-- '[]byte(..)' of a constant. -/
theorem rel_mark {ops : Array Oper} {o : Oper} {a : Act} {w0 W : World} {l : List UInt8} (hW : Below w0.heap.size w0 W) (hw : Region.wanted o (yielded ops a.tmps) = true) (x : Operand) (ho : o.op = .convert 22 22 x)
    (h : RowB l (a.eval x) W) (hnew : ∀ g, (a.eval x).ownBlock = some g → w0.heap.size ≤ g) : relOp Tryd.prog w0.heap.size ops o a (.inr (RowB l)) W := by
  obtain ⟨w', h1, h2, h3, h4, h5⟩ := run_conv_mark Tryd.underlying22 Tryd.underlying5 l _ W h
  unfold relOp
  rw [if_pos hw]
  have hr : (execOp a.eval o).run Tryd.prog W = .ok (.value (a.eval x)) w' := by
    unfold execOp
    simp only [ho, Sem.run_bind, h1, Result.andThen_ok, Sem.run_pure]
  rw [hr]
  exact ⟨⟨h5 _ hnew, h4⟩, h2⟩
/-- a row of bytes that is younger than block B. -/
def RowN (B : Nat) (l : List UInt8) (v : Value) (w : World) : Prop := RowB l v w ∧ ∀ g, v.ownBlock = some g → B ≤ g
theorem RowN.keeps (B : Nat) (l : List UInt8) : Keeps (RowN B l) := fun v w w' h hs => ⟨RowB.keeps l v w w' h.1 hs, h.2⟩
/-- a slice of slices that reads as ls. -/
def SlL (ls : List (List UInt8)) (v : Value) (w : World) : Prop := ∃ A cap, v = .slice A ls.length cap ∧ Ls w w.heap.size A ls
theorem SlL.keeps (ls : List (List UInt8)) : Keeps (SlL ls) := by
  rintro v w w' ⟨A, cap, rfl, h⟩ hs
  exact ⟨A, cap, rfl, (h.keep hs.cell).more hs.below.size⟩
end Go.Proofs.YtkdkpnidiehdfaaDoor
