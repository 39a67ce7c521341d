/- threads that take turns under one mutex: no data race. Plain: no program. -/
import Derived.Test.YtkcpoebepiipoaaGp
set_option linter.unusedSimpArgs false
set_option linter.unusedVariables false
namespace Go.Proofs.Ytkcpoebepiipoaa

/-- what one number has a thread do. -/
def gev (x : Nat) : List Ev :=
  [⟨(x / 8 : Nat), 3, 0⟩, ⟨(x / 8 : Nat), (1 + x % 2 : Nat), (x / 2 % 2 : Nat)⟩] ++ (if x / 4 % 2 = 1 then [⟨(x / 8 : Nat), 0, 0⟩, ⟨(x / 8 : Nat), 2, 0⟩] else []) ++ [⟨(x / 8 : Nat), 4, 0⟩]
theorem gev_len (x : Nat) : 3 ≤ (gev x).length ∧ (gev x).length ≤ 5 := by
  unfold gev
  split <;> simp
theorem ev_left (a b : List Ev) (i : Nat) (h : i < a.length) : ev (a ++ b) i = ev a i := by
  simp [ev, List.getD_eq_getElem?_getD, List.getElem?_append_left h]
theorem ev_right (a b : List Ev) (i : Nat) (h : a.length ≤ i) : ev (a ++ b) i = ev b (i - a.length) := by
  simp [ev, List.getD_eq_getElem?_getD, List.getElem?_append_right h]
theorem gev_t (x i : Nat) (h : i < (gev x).length) : (ev (gev x) i).t = (x / 8 : Nat) := by
  unfold gev at h ⊢
  split at h
  · rename_i hx
    simp at h
    rw [if_pos hx]
    have : i = 0 ∨ i = 1 ∨ i = 2 ∨ i = 3 ∨ i = 4 := by omega
    rcases this with rfl | rfl | rfl | rfl | rfl <;> rfl
  · rename_i hx
    simp at h
    rw [if_neg hx]
    have : i = 0 ∨ i = 1 ∨ i = 2 := by omega
    rcases this with rfl | rfl | rfl <;> rfl
theorem gev_first (x : Nat) : (ev (gev x) 0).k = 3 ∧ (ev (gev x) 0).o = 0 := by
  unfold gev; exact ⟨rfl, rfl⟩
theorem gev_last (x : Nat) : (ev (gev x) ((gev x).length - 1)).k = 4 ∧ (ev (gev x) ((gev x).length - 1)).o = 0 := by
  unfold gev
  split <;> exact ⟨rfl, rfl⟩
/-- a turn's whole, around an event of a variable. -/
def Turn (l : List Ev) (i : Nat) : Prop := ∃ p u, p < i ∧ i < u ∧ u < l.length ∧ (∀ k, p ≤ k → k ≤ u → (ev l k).t = (ev l i).t) ∧ (ev l p).k = 3 ∧ (ev l p).o = 0 ∧ (ev l u).k = 4 ∧ (ev l u).o = 0
theorem turn_at : ∀ (xs : List Nat) (i : Nat), i < (xs.flatMap gev).length → isVr (ev (xs.flatMap gev) i).k = true → Turn (xs.flatMap gev) i
  | [], i, h, _ => by simp at h
  | x :: xs, i, h, hv => by
    rw [List.flatMap_cons] at h hv ⊢
    have hl := gev_len x
    by_cases hi : i < (gev x).length
    · rw [ev_left _ _ _ hi] at hv
      have hne0 : i ≠ 0 := fun e => by
        rw [e, (gev_first x).1] at hv; simp [isVr] at hv
      have hne1 : i ≠ (gev x).length - 1 := fun e => by
        rw [e, (gev_last x).1] at hv; simp [isVr] at hv
      refine ⟨0, (gev x).length - 1, by omega, by omega, by simp; omega, fun k _ hk => ?_, ?_, ?_, ?_, ?_⟩
      · rw [ev_left _ _ _ (by omega), ev_left _ _ _ hi, gev_t x k (by omega), gev_t x i hi]
      · rw [ev_left _ _ _ (by omega)]; exact (gev_first x).1
      · rw [ev_left _ _ _ (by omega)]; exact (gev_first x).2
      · rw [ev_left _ _ _ (by omega)]; exact (gev_last x).1
      · rw [ev_left _ _ _ (by omega)]; exact (gev_last x).2
    · have hi' : (gev x).length ≤ i := by omega
      rw [ev_right _ _ _ hi'] at hv
      rw [List.length_append] at h
      obtain ⟨p, u, h1, h2, h3, h4, h5, h6, h7, h8⟩ := turn_at xs (i - (gev x).length) (by omega) hv
      have key : ∀ k, ev (gev x ++ xs.flatMap gev) ((gev x).length + k) = ev (xs.flatMap gev) k := fun k => by
        rw [ev_right _ _ _ (by omega)]; congr 1; omega
      refine ⟨(gev x).length + p, (gev x).length + u, by omega, by omega, by rw [List.length_append]; omega, fun k hk1 hk2 => ?_, by rw [key]; exact h5, by rw [key]; exact h6, by rw [key]; exact h7, by rw [key]; exact h8⟩
      rw [ev_right _ _ _ (by omega), ev_right _ _ _ hi']
      exact h4 _ (by omega) (by omega)
theorem lk_of_turns (l : List Ev) (i j : Nat) (hij : i < j) (hi : Turn l i) (hj : Turn l j) (ht : (ev l i).t ≠ (ev l j).t) : lk l i j = true := by
  obtain ⟨p, u, h1, h2, h3, h4, h5, h6, h7, h8⟩ := hi
  obtain ⟨p', u', g1, g2, g3, g4, g5, g6, g7, g8⟩ := hj
  have hju : u < j := by
    rcases Nat.lt_or_ge u j with h | h
    · exact h
    · exact absurd (h4 j (by omega) h).symm ht
  have hup : u < p' := by
    rcases Nat.lt_or_ge u p' with h | h
    · exact h
    · exfalso
      exact ht ((h4 u (by omega) (Nat.le_refl _)).symm.trans (g4 u h (by omega)))
  have s1 : rc (fun a b => fol (ev l a) (ev l b)) i u = true := (rc_iff _ _ _).2 ⟨h2, .inl (by
    show fol (ev l i) (ev l u) = true
    unfold fol
    rw [h4 u (by omega) (Nat.le_refl _)]
    simp)⟩
  have s2 : rc (fun a b => fol (ev l a) (ev l b)) i p' = true := (rc_iff _ _ _).2 ⟨by omega, .inr ⟨u, h2, hup, s1, by
    show fol (ev l u) (ev l p') = true
    unfold fol
    rw [h7, h8, g5, g6]
    simp⟩⟩
  exact (rc_iff _ _ _).2 ⟨hij, .inr ⟨p', by omega, g1, s2, by
    show fol (ev l p') (ev l j) = true
    unfold fol
    rw [g4 p' (Nat.le_refl _) (by omega)]
    simp⟩⟩
theorem dat_vr {a b : Ev} (h : dat a b = true) : isVr a.k = true ∧ isVr b.k = true := by
  simp only [dat, Bool.and_eq_true] at h
  exact ⟨h.1.1.1, h.1.1.2⟩
theorem guard_no (xs : List Nat) (i j : Nat) (hij : i < j) (hj : j < (xs.flatMap gev).length) (ht : (ev (xs.flatMap gev) i).t ≠ (ev (xs.flatMap gev) j).t) : dataB (xs.flatMap gev) i j = false := by
  unfold dataB
  cases h : dat (ev (xs.flatMap gev) i) (ev (xs.flatMap gev) j) with
  | false => rfl
  | true =>
    obtain ⟨h1, h2⟩ := dat_vr h
    rw [lk_of_turns _ i j hij (turn_at xs i (by omega) h1) (turn_at xs j hj h2) ht]
    rfl
theorem guard_len (xs : List Nat) : (xs.flatMap gev).length ≤ xs.length * 5 := by
  induction xs with
  | nil => simp
  | cons x xs ih =>
    rw [List.flatMap_cons, List.length_append, List.length_cons]
    have := (gev_len x).2
    omega
theorem guard_t (xs : List Nat) (n : Nat) (hx : ∀ x ∈ xs, x < 8 * n) : ∀ i, i < (xs.flatMap gev).length → 0 ≤ (ev (xs.flatMap gev) i).t ∧ (ev (xs.flatMap gev) i).t < n := by
  induction xs with
  | nil => intro i h; simp at h
  | cons x xs ih =>
    intro i h
    rw [List.flatMap_cons] at h ⊢
    by_cases hi : i < (gev x).length
    · rw [ev_left _ _ _ hi, gev_t x i hi]
      have := hx x (by simp)
      omega
    · rw [ev_right _ _ _ (by omega)]
      rw [List.length_append] at h
      exact ih (fun y hy => hx y (by simp [hy])) _ (by omega)
end Go.Proofs.Ytkcpoebepiipoaa
