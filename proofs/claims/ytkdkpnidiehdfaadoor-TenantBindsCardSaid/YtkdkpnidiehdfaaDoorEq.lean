/-
  '==' of two digests (arrays of bytes). Over any program.
-/
import Derived.Test.YtkdkpnidiehdfaaDoorConv
import Derived.ChangeKeysEq
set_option linter.unusedSimpArgs false
set_option linter.unusedVariables false
namespace Go.Proofs.YtkdkpnidiehdfaaDoor
open Go.RowKit

theorem run_part_int {P : Program} {e : TypeId} {k : IntKind} (he : P.underlying e = some (.int k)) (cs : Array Value) (i : Nat) (v : Value) (hv : cs[i]? = some v) (w : World) :
    (part e cs i).run P w = .ok v w := by
  simp [part, isAgg, run_underlying he, hv, go_sem]
theorem run_eqItems_bytes {P : Program} {e : TypeId} (he : P.underlying e = some (.int .u8)) (d : Nat) (a b : List UInt8) (w : World) : ∀ is : List Nat, (∀ i ∈ is, i < a.length ∧ i < b.length) →
    (Op.eqItems (d + 1) e 1 (bcells a).toArray (bcells b).toArray is).run P w = .ok (decide (∀ i ∈ is, a.getD i 0 = b.getD i 0)) w
  | [], _ => by simp [Op.eqItems]
  | i :: is, h => by
    have ha : (bcells a).toArray[i]? = some (.int .u8 (a.getD i 0).toNat) := by simp [bcells, List.getD_eq_getElem?_getD, (h i (by simp)).1]
    have hb : (bcells b).toArray[i]? = some (.int .u8 (b.getD i 0).toNat) := by simp [bcells, List.getD_eq_getElem?_getD, (h i (by simp)).2]
    have ih := run_eqItems_bytes he d a b w is (fun j hj => h j (by simp [hj]))
    simp only [Op.eqItems, Sem.run_bind, Nat.mul_one, run_part_int he _ i _ ha, run_part_int he _ i _ hb, Result.andThen_ok, run_equalIn_int w d e .u8 .u8 _ _ he]
    generalize hx : a.getD i 0 = x
    generalize hy : b.getD i 0 = y
    by_cases hxy : x = y
    · subst hxy
      have hx' : a[i]?.getD 0 = x := by simpa [List.getD_eq_getElem?_getD] using hx
      have hy' : b[i]?.getD 0 = x := by simpa [List.getD_eq_getElem?_getD] using hy
      simp [ih, hx', hy']
    · have : ((x.toNat : Int) == (y.toNat : Int)) = false := by
        rw [beq_eq_false_iff_ne]; intro e; exact hxy (UInt8.toNat_inj.1 (by omega))
      have hx' : a[i]?.getD 0 = x := by simpa [List.getD_eq_getElem?_getD] using hx
      have hy' : b[i]?.getD 0 = y := by simpa [List.getD_eq_getElem?_getD] using hy
      simp [this, hx', hy', hxy]
theorem eq_of_getD {a b : List UInt8} (h : a.length = b.length) (n : Nat) (hn : a.length = n) : (∀ i ∈ List.range n, a.getD i 0 = b.getD i 0) ↔ a = b := by
  constructor
  · intro H
    apply List.ext_getElem h
    intro i h1 h2
    have := H i (by simp; omega)
    simpa [List.getD_eq_getElem?_getD, h1, h2] using this
  · rintro rfl _ _; rfl
theorem run_eql_bytes {P : Program} {t e : TypeId} {n : Nat} (ht : P.underlying t = some (.array n e)) (he : P.underlying e = some (.int .u8)) (hs : (P.info? e).map (·.size) = some 1) (a b : List UInt8) (ha : a.length = n) (hb : b.length = n) (w : World) :
    (binOp .eql t (dg a) (dg b)).run P w = .ok (.bool (decide (a = b))) w := by
  unfold dg
  rw [run_eql_struct]
  cases hq : P.info? e with
  | none => simp [hq] at hs
  | some i =>
    have hc : P.cellsOf e = 1 := by simpa [Program.cellsOf, hq] using hs
    rw [run_equalIn_array w 9999 _ _ ht hq, hc, run_eqItems_bytes he 9998 a b w _ (fun i hi => by simp at hi; omega)]
    simp only [Result.andThen_ok]
    rw [decide_eq_decide.2 (eq_of_getD (by omega) n ha)]
end Go.Proofs.YtkdkpnidiehdfaaDoor
