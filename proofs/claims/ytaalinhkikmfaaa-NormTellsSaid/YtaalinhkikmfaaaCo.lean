/- the law's own search for what happens ahead of what. -/
import Derived.Test.YtaalinhkikmfaaaCk
set_option linter.unusedSimpArgs false
set_option linter.unusedVariables false
namespace Go.Proofs.Ytaalinhkikmfaaa
open Go.RowKit

def want (l : List Ev) (i j k : Nat) : Bool := decide (i < j) && (dpd (ev l i) (ev l j) || (List.range k).any fun q => decide (i < q) && (hb l i q && dpd (ev l q) (ev l j)))
theorem want_iff (l : List Ev) (i j k : Nat) : want l i j k = true ↔ i < j ∧ (dpd (ev l i) (ev l j) = true ∨ ∃ q, q < k ∧ i < q ∧ hb l i q = true ∧ dpd (ev l q) (ev l j) = true) := by
  unfold want
  simp only [Bool.and_eq_true, decide_eq_true_eq, Bool.or_eq_true, List.any_eq_true, List.mem_range]
theorem want_none (l : List Ev) (i j k : Nat) (h : ¬ i < j) : want l i j k = false := by
  cases e : want l i j k with
  | false => rfl
  | true => exact absurd ((want_iff l i j k).1 e).1 h
theorem want_zero (l : List Ev) (i j : Nat) (h : i < j) : want l i j (i + 1) = dpd (ev l i) (ev l j) := by
  rw [Bool.eq_iff_iff, want_iff]
  constructor
  · rintro ⟨_, h | ⟨q, h1, h2, _⟩⟩
    · exact h
    · omega
  · exact fun h1 => ⟨h, .inl h1⟩
theorem want_step (l : List Ev) (i j k : Nat) (hik : i < k) (hkj : k < j) (h : want l i j k = false) : want l i j (k + 1) = (hb l i k && dpd (ev l k) (ev l j)) := by
  rw [Bool.eq_iff_iff, want_iff, Bool.and_eq_true]
  have h : ¬ want l i j k = true := by rw [h]; exact Bool.false_ne_true
  rw [want_iff] at h
  constructor
  · rintro ⟨h1, h2 | ⟨q, h2, h3, h4⟩⟩
    · exact absurd ⟨h1, .inl h2⟩ h
    · by_cases e : q = k
      · subst e; exact h4
      · exact absurd ⟨h1, .inr ⟨q, by omega, h3, h4⟩⟩ h
  · exact fun h1 => ⟨by omega, .inr ⟨k, by omega, hik, h1⟩⟩
theorem want_hb (l : List Ev) (i j k : Nat) (hk : k ≤ j ∨ k = i + 1) (h : want l i j k = true ∨ j ≤ k) : want l i j k = hb l i j := by
  rw [Bool.eq_iff_iff, hb_iff]
  constructor
  · rw [want_iff]
    rintro ⟨h1, h2 | ⟨q, h2, h3, h4, h5⟩⟩
    · exact ⟨h1, .inl h2⟩
    · exact ⟨h1, .inr ⟨q, h3, by omega, h4, h5⟩⟩
  · rintro ⟨h1, h2⟩
    rcases h with h | h
    · exact h
    · rw [want_iff]
      refine ⟨h1, ?_⟩
      rcases h2 with h2 | ⟨q, h2, h3, h4⟩
      · exact .inl h2
      · exact .inr ⟨q, by omega, h2, h4⟩
end Go.Proofs.Ytaalinhkikmfaaa
