/- what comes ahead of what by a relation's steps, and how rows are filled. Plain: no program. -/
import Derived.Test.YtaalinhkikmfaaaCp
set_option linter.unusedSimpArgs false
set_option linter.unusedVariables false
namespace Go.Proofs.Ytaalinhkikmfaaa

/-- ahead by steps of r, each to a later one. -/
def rcF (r : Nat → Nat → Bool) : Nat → Nat → Nat → Bool
  | 0, _, _ => false
  | f + 1, i, j => decide (i < j) && (r i j || (List.range j).any fun k => decide (i < k) && rcF r f i k && r k j)
def rc (r : Nat → Nat → Bool) (i j : Nat) : Bool := rcF r j i j
theorem rcF_any (r : Nat → Nat → Bool) : ∀ (f g i j : Nat), j ≤ f → j ≤ g → rcF r f i j = rcF r g i j
  | 0, 0, _, _, _, _ => rfl
  | 0, g + 1, i, j, h, _ => by
    obtain rfl : j = 0 := by omega
    simp [rcF]
  | f + 1, 0, i, j, _, h => by
    obtain rfl : j = 0 := by omega
    simp [rcF]
  | f + 1, g + 1, i, j, hf, hg => by
    rw [rcF, rcF]
    congr 2
    rw [Bool.eq_iff_iff, List.any_eq_true, List.any_eq_true]
    constructor
    · rintro ⟨k, hk, h⟩
      have hk' : k < j := by simpa using hk
      exact ⟨k, hk, by rw [← rcF_any r f g i k (by omega) (by omega)]; exact h⟩
    · rintro ⟨k, hk, h⟩
      have hk' : k < j := by simpa using hk
      exact ⟨k, hk, by rw [rcF_any r f g i k (by omega) (by omega)]; exact h⟩
theorem rc_iff (r : Nat → Nat → Bool) (i j : Nat) : rc r i j = true ↔ i < j ∧ (r i j = true ∨ ∃ k, i < k ∧ k < j ∧ rc r i k = true ∧ r k j = true) := by
  unfold rc
  rw [rcF_any r j (j + 1) i j (Nat.le_refl _) (by omega), rcF]
  simp only [Bool.and_eq_true, decide_eq_true_eq, Bool.or_eq_true, List.any_eq_true, List.mem_range]
  constructor
  · rintro ⟨h1, h2 | ⟨k, h3, ⟨h4, h5⟩, h6⟩⟩
    · exact ⟨h1, .inl h2⟩
    · exact ⟨h1, .inr ⟨k, h4, h3, by rw [rcF_any r k j i k (Nat.le_refl _) (by omega)]; exact h5, h6⟩⟩
  · rintro ⟨h1, h2 | ⟨k, h3, h4, h5, h6⟩⟩
    · exact ⟨h1, .inl h2⟩
    · exact ⟨h1, .inr ⟨k, h4, ⟨h3, by rw [← rcF_any r k j i k (Nat.le_refl _) (by omega)]; exact h5⟩, h6⟩⟩
theorem rc_lt {r : Nat → Nat → Bool} {i j : Nat} (h : rc r i j = true) : i < j := ((rc_iff r i j).1 h).1
theorem hb_rc (l : List Ev) (i : Nat) : ∀ j, hb l i j = rc (fun a b => dpd (ev l a) (ev l b)) i j := by
  intro j
  induction j using Nat.strongRecOn with
  | _ j ih =>
    rw [Bool.eq_iff_iff, hb_iff, rc_iff]
    refine and_congr_right fun h1 => or_congr_right ⟨?_, ?_⟩
    · rintro ⟨k, h3, h4, h5, h6⟩; exact ⟨k, h3, h4, by rw [← ih k h4]; exact h5, h6⟩
    · rintro ⟨k, h3, h4, h5, h6⟩; exact ⟨k, h3, h4, by rw [ih k h4]; exact h5, h6⟩
theorem rc_congr {r r' : Nat → Nat → Bool} (h : ∀ i j, i < j → r i j = r' i j) (i : Nat) : ∀ j, rc r i j = rc r' i j := by
  intro j
  induction j using Nat.strongRecOn with
  | _ j ih =>
    rw [Bool.eq_iff_iff, rc_iff, rc_iff]
    refine and_congr_right fun h1 => or_congr (by rw [h i j h1]) ⟨?_, ?_⟩
    · rintro ⟨k, h3, h4, h5, h6⟩; exact ⟨k, h3, h4, by rw [← ih k h4]; exact h5, by rw [← h k j h4]; exact h6⟩
    · rintro ⟨k, h3, h4, h5, h6⟩; exact ⟨k, h3, h4, by rw [ih k h4]; exact h5, by rw [h k j h4]; exact h6⟩
/-- a row, filled from below, from above. -/
def asc (r : Nat → Nat → Bool) (j t k : Nat) : Bool := (List.range t).any fun i => r i j && (decide (k = i) || rc r k i)
def dsc (r : Nat → Nat → Bool) (j t k : Nat) : Bool := (List.range j).any fun i => decide (t ≤ i) && (r i j && (decide (k = i) || rc r k i))
theorem asc_zero (r : Nat → Nat → Bool) (j k : Nat) : asc r j 0 k = false := rfl
theorem asc_succ (r : Nat → Nat → Bool) (j t k : Nat) : asc r j (t + 1) k = (asc r j t k || (r t j && (decide (k = t) || rc r k t))) := by
  simp [asc, List.range_succ]
theorem asc_lt {r : Nat → Nat → Bool} {j t k : Nat} (h : asc r j t k = true) : k < t := by
  obtain ⟨i, hi, h⟩ := List.any_eq_true.1 h
  have hi' : i < t := by simpa using hi
  simp only [Bool.and_eq_true, Bool.or_eq_true, decide_eq_true_eq] at h
  rcases h.2 with h | h
  · omega
  · have := rc_lt h; omega
theorem rows_iff (r : Nat → Nat → Bool) (j k : Nat) : rc r k j = true ↔ ∃ i, i < j ∧ r i j = true ∧ (k = i ∨ rc r k i = true) := by
  rw [rc_iff]
  constructor
  · rintro ⟨h1, h2 | ⟨i, h3, h4, h5, h6⟩⟩
    · exact ⟨k, h1, h2, .inl rfl⟩
    · exact ⟨i, h4, h6, .inr h5⟩
  · rintro ⟨i, h1, h2, rfl | h3⟩
    · exact ⟨h1, .inl h2⟩
    · have := rc_lt h3
      exact ⟨by omega, .inr ⟨i, this, h1, h3, h2⟩⟩
theorem asc_full (r : Nat → Nat → Bool) (j k : Nat) : asc r j j k = rc r k j := by
  rw [Bool.eq_iff_iff, rows_iff]
  unfold asc
  simp only [List.any_eq_true, List.mem_range, Bool.and_eq_true, Bool.or_eq_true, decide_eq_true_eq]
theorem dsc_full (r : Nat → Nat → Bool) (j k : Nat) : dsc r j 0 k = rc r k j := by
  rw [Bool.eq_iff_iff, rows_iff]
  unfold dsc
  simp only [List.any_eq_true, List.mem_range, Bool.and_eq_true, Bool.or_eq_true, decide_eq_true_eq, Nat.zero_le, true_and]
theorem dsc_top (r : Nat → Nat → Bool) (j k : Nat) : dsc r j j k = false := by
  unfold dsc
  rw [List.any_eq_false]
  intro i hi
  have hi' : i < j := by simpa using hi
  simp [show ¬ j ≤ i by omega]
theorem dsc_step (r : Nat → Nat → Bool) (j t k : Nat) (ht : t < j) : dsc r j t k = (dsc r j (t + 1) k || (r t j && (decide (k = t) || rc r k t))) := by
  rw [Bool.eq_iff_iff]
  unfold dsc
  simp only [List.any_eq_true, List.mem_range, Bool.and_eq_true, Bool.or_eq_true, decide_eq_true_eq]
  constructor
  · rintro ⟨i, h1, h2, h3⟩
    by_cases e : i = t
    · subst e; exact .inr h3
    · exact .inl ⟨i, h1, by omega, h3⟩
  · rintro (⟨i, h1, h2, h3⟩ | h3)
    · exact ⟨i, h1, by omega, h3⟩
    · exact ⟨t, ht, Nat.le_refl _, h3⟩
/-- directly by locks ahead. -/
def fol (a b : Ev) : Bool := decide (a.t = b.t) || (decide (a.k = 4) && decide (b.k = 3) && decide (a.o = b.o))
def lk (l : List Ev) (i j : Nat) : Bool := rc (fun a b => fol (ev l a) (ev l b)) i j
/-- two events of one shared variable, one of which writes. -/
def dat (a b : Ev) : Bool := isVr a.k && isVr b.k && decide (a.o = b.o) && (decide (a.k = 2) || decide (b.k = 2))
def dataB (l : List Ev) (i j : Nat) : Bool := dat (ev l i) (ev l j) && !lk l i j
end Go.Proofs.Ytaalinhkikmfaaa
