/- unlike codes have unlike bytes. Plain. -/
import Derived.Test.YtbmpjphemjponaaWw
set_option linter.unusedSimpArgs false
set_option linter.unusedVariables false
namespace Go.Proofs.Ytbmpjphemjponaa
open Go.RowKit

theorem eqL_same {α : Type} {f : α → α → Bool} (h : ∀ a b, f a b = true → a = b) : ∀ {l m : List α}, eqL f l m = true → l = m
  | [], [], _ => rfl
  | a :: l, b :: m, e => by
    simp only [eqL, Bool.and_eq_true] at e
    rw [h a b e.1, eqL_same h e.2]
  | [], _ :: _, e => by simp [eqL] at e
  | _ :: _, [], e => by simp [eqL] at e
theorem Vl.eq_same (a b : Vl) (h : a.eq b = true) : a = b := by
  obtain ⟨t, x⟩ := a; obtain ⟨t', x'⟩ := b
  simp only [Vl.eq, Bool.and_eq_true, decide_eq_true_eq] at h
  rw [h.1, h.2]
theorem Ins.eq_same (a b : Ins) (h : a.eq b = true) : a = b := by
  obtain ⟨o, x, l⟩ := a; obtain ⟨o', x', l'⟩ := b
  simp only [Ins.eq, Bool.and_eq_true, decide_eq_true_eq] at h
  rw [h.1, h.2.1, Vl.eq_same _ _ h.2.2]
theorem Nd.eq_same (a b : Nd) (h : a.eq b = true) : a = b := by
  obtain ⟨c, k, x, n, y⟩ := a; obtain ⟨c', k', x', n', y'⟩ := b
  simp only [Nd.eq, Bool.and_eq_true, decide_eq_true_eq] at h
  rw [eqL_same Ins.eq_same h.1, h.2.1, h.2.2.1, h.2.2.2.1, h.2.2.2.2]
theorem Bd.eq_same (a b : Bd) (h : a.eq b = true) : a = b := by
  obtain ⟨c, k, x⟩ := a; obtain ⟨c', k', x'⟩ := b
  simp only [Bd.eq, Bool.and_eq_true, decide_eq_true_eq] at h
  rw [eqL_same Vl.eq_same h.1, h.2.1, eqL_same Nd.eq_same h.2.2]
theorem Cd.eq_same (a b : Cd) (h : a.eq b = true) : a = b := by
  obtain ⟨c, k, x⟩ := a; obtain ⟨c', k', x'⟩ := b
  simp only [Cd.eq, Bool.and_eq_true, decide_eq_true_eq] at h
  rw [eqL_same Vl.eq_same h.1, h.2.1, eqL_same Bd.eq_same h.2.2]
theorem cdB_same {c d : Cd} (hc : CdIn c) (hd : CdIn d) (kc : chk c = 0) (kd : chk d = 0) : decide (cdB c = cdB d) = Cd.eq c d := by
  by_cases h : cdB c = cdB d
  · have h1 := readL_lay hc kc
    rw [h, readL_lay hd kd] at h1
    injection h1 with h1
    rw [h1, Cd.eq_refl, decide_eq_true rfl]
  · rw [decide_eq_false h]
    cases he : Cd.eq c d with
    | false => rfl
    | true => exact absurd (by rw [Cd.eq_same c d he]) h
theorem flat_len_le {α : Type} (f : α → List UInt8) (g : α → Nat) (k : Nat) (h : ∀ a, (f a).length ≤ k * g a) (l : List α) : (l.flatMap f).length ≤ k * (l.map g).sum := by
  induction l with
  | nil => simp
  | cons a l ih => have := h a; rw [List.flatMap_cons, List.length_append, List.map_cons, List.sum_cons, Nat.mul_add]; omega
theorem inB_len (i : Ins) : (inB i).length ≤ 11 := by
  unfold inB
  split <;> simp [beb_length, vlB_len]
theorem ins_len (l : List Ins) : (l.flatMap inB).length ≤ 11 * l.length := by
  induction l with
  | nil => simp
  | cons a l ih => have := inB_len a; rw [List.flatMap_cons, List.length_append, List.length_cons]; omega
theorem ndB_len (n : Nd) : (ndB n).length ≤ 11 * n.wt := by
  have := ins_len n.code
  unfold ndB Nd.wt
  simp only [List.length_append, beb_length]
  omega
theorem bdB_len (b : Bd) : (bdB b).length ≤ 11 * b.wt := by
  have h1 := flat_len_le ndB Nd.wt 11 ndB_len b.nodes
  have e : b.wt = 1 + b.locals.length + (b.nodes.map Nd.wt).sum := rfl
  unfold bdB
  simp only [List.length_append, beb_length, vls_len]
  omega
theorem cdB_len (c : Cd) : 3 ≤ (cdB c).length ∧ (cdB c).length ≤ 11 * c.wt + 3 := by
  have h1 := flat_len_le bdB Bd.wt 11 bdB_len c.bodies
  have e : c.wt = c.shared.length + (c.bodies.map Bd.wt).sum := rfl
  unfold cdB
  simp only [List.length_append, beb_length, vls_len]
  omega
end Go.Proofs.Ytbmpjphemjponaa
