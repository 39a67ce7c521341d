/- what the laws of ch. 13 call: Pick, ahead, orders. -/
import Derived.Test.YtaalinhkikmfaaaCj
import Derived.Test.YtaalinhkikmfaaaPk
set_option linter.unusedSimpArgs false
set_option linter.unusedVariables false
namespace Go.Proofs.Ytaalinhkikmfaaa
open Go.RowKit

theorem aheadB_hb (l : List Ev) (i j : Nat) (h : 0 ≤ (ev l i).t) : aheadB (clk l) l i j = hb l i j := by
  unfold aheadB
  by_cases hij : i < j
  · have h1 := clk_hb l i j (tn l i) (by unfold tn; omega) hij
    rw [decide_eq_true hij, Bool.true_and]
    rw [Bool.eq_iff_iff, decide_eq_true_iff]
    exact h1.symm
  · rw [decide_eq_false hij, Bool.false_and]
    cases e : hb l i j with
    | false => rfl
    | true => exact absurd (hb_lt e) hij
end Go.Proofs.Ytaalinhkikmfaaa
