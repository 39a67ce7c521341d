/- race.ahead, race.race: is a pair a race? -/
import Derived.Test.YtaalinhkikmfaaaMg10
import Derived.Test.YtaalinhkikmfaaaSg
set_option linter.unusedSimpArgs false
set_option linter.unusedVariables false
namespace Go.Proofs.Ytaalinhkikmfaaa
open Go.RowKit

theorem aheadB_hb (l : List Ev) (i j : Nat) (h : 0 ≤ (ev l i).t) : aheadB (clk l) l i j = hb l i j := by
  unfold aheadB
  by_cases hij : i < j
  · have h1 := clk_hb l i j (tn l i) (by unfold tn; omega) hij
    rw [decide_eq_true hij, Bool.true_and]
    rw [Bool.eq_iff_iff, decide_eq_true_iff]
    exact h1.symm
  · rw [decide_eq_false hij, Bool.false_and]
    cases e : hb l i j with
    | false => rfl
    | true => exact absurd (hb_lt e) hij
/-- is there an event between two, of which the first one happens ahead, and that happens ahead of the second one? -/
def btw (l : List Ev) (i j : Nat) : Bool := (List.range j).any fun k => decide (i < k) && (hb l i k && hb l k j)
theorem btw_yes {l : List Ev} {i j k : Nat} (h1 : i < k) (h2 : k < j) (h3 : hb l i k = true) (h4 : hb l k j = true) : btw l i j = true :=
  List.any_eq_true.2 ⟨k, by simpa using h2, by simp [h1, h3, h4]⟩
theorem btw_no {l : List Ev} {i j : Nat} (h : ∀ k, i < k → k < j → (hb l i k && hb l k j) = false) : btw l i j = false := by
  unfold btw
  rw [List.any_eq_false]
  intro k hk
  have hk' : k < j := by simpa using hk
  by_cases h1 : i < k
  · simp [h1, h k h1 hk']
  · simp [h1]
def raceB (l : List Ev) (i j : Nat) : Bool := dpd (ev l i) (ev l j) && !btw l i j

end Go.Proofs.Ytaalinhkikmfaaa
