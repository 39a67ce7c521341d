/- the least order, computed; how many are left ahead of an event. Plain: no program. -/
import Derived.Test.YtaalinhkikmfaaaMg3
set_option linter.unusedSimpArgs false
set_option linter.unusedVariables false
namespace Go.Proofs.Ytaalinhkikmfaaa

def rdyB (l : List Ev) (out : List Nat) (j : Nat) : Bool := decide (j ∉ out) && (List.range j).all fun i => decide (i ∈ out) || !hb l i j
theorem rdyB_iff {l : List Ev} {out : List Nat} {j : Nat} (hj : j < l.length) : rdyB l out j = true ↔ Rdy l out j := by
  unfold rdyB Rdy
  rw [Bool.and_eq_true, List.all_eq_true]
  constructor
  · rintro ⟨h1, h2⟩
    refine ⟨hj, by simpa using h1, fun i hi => ?_⟩
    have := h2 i (List.mem_range.2 (hb_lt hi))
    rw [hi] at this
    simpa using this
  · rintro ⟨_, h1, h2⟩
    refine ⟨by simpa using h1, fun i hi => ?_⟩
    cases h : hb l i j with
    | false => simp
    | true => simp [h2 i h]
/-- the best one of the first k. -/
def bestK (l : List Ev) (out : List Nat) : Nat → Option Nat
  | 0 => none
  | k + 1 => if rdyB l out k && (match bestK l out k with | none => true | some b => decide ((ev l k).t < (ev l b).t)) then some k else bestK l out k
theorem bestK_spec (l : List Ev) (out : List Nat) : ∀ k, (bestK l out k = none ∧ ∀ j, j < k → rdyB l out j = false) ∨ ∃ b, bestK l out k = some b ∧ b < k ∧ rdyB l out b = true ∧ ∀ j, j < k → rdyB l out j = true → (ev l b).t ≤ (ev l j).t
  | 0 => .inl ⟨rfl, fun j hj => by omega⟩
  | k + 1 => by
    unfold bestK
    rcases bestK_spec l out k with ⟨h1, h2⟩ | ⟨b, h1, h2, h3, h4⟩
    · rw [h1]
      cases hr : rdyB l out k with
      | false =>
        refine .inl ⟨rfl, fun j hj => ?_⟩
        by_cases e : j = k
        · rw [e]; exact hr
        · exact h2 j (by omega)
      | true =>
        refine .inr ⟨k, rfl, by omega, hr, fun j hj hrj => ?_⟩
        by_cases e : j = k
        · rw [e]; omega
        · rw [h2 j (by omega)] at hrj; cases hrj
    · rw [h1]
      simp only []
      by_cases hc : (rdyB l out k && decide ((ev l k).t < (ev l b).t)) = true
      · rw [if_pos hc]
        rw [Bool.and_eq_true, decide_eq_true_iff] at hc
        refine .inr ⟨k, rfl, by omega, hc.1, fun j hj hrj => ?_⟩
        by_cases e : j = k
        · rw [e]; omega
        · have := h4 j (by omega) hrj; omega
      · rw [if_neg hc]
        refine .inr ⟨b, rfl, by omega, h3, fun j hj hrj => ?_⟩
        by_cases e : j = k
        · rw [e] at hrj ⊢
          rw [hrj, Bool.true_and, decide_eq_true_iff] at hc
          omega
        · exact h4 j (by omega) hrj
theorem best_gr {l : List Ev} {out : List Nat} (h : Gr l out) (hl : out.length < l.length) : ∃ b, bestK l out l.length = some b ∧ b < l.length ∧ Gr l (out ++ [b]) := by
  obtain ⟨j, hj⟩ := rdy_some h.dn hl
  rcases bestK_spec l out l.length with ⟨_, h2⟩ | ⟨b, h1, h2, h3, h4⟩
  · have := h2 j hj.1
    rw [(rdyB_iff hj.1).2 hj] at this
    cases this
  · exact ⟨b, h1, h2, .snoc h ((rdyB_iff h2).1 h3) fun k hk => h4 k hk.1 ((rdyB_iff hk.1).2 hk)⟩
/-- the least order. -/
def leastF (l : List Ev) : Nat → List Nat
  | 0 => []
  | k + 1 => match bestK l (leastF l k) l.length with
    | none => leastF l k
    | some b => leastF l k ++ [b]
def leastX (l : List Ev) : List Nat := leastF l l.length
theorem leastF_gr (l : List Ev) : ∀ k, k ≤ l.length → Gr l (leastF l k) ∧ (leastF l k).length = k
  | 0, _ => ⟨.nil, rfl⟩
  | k + 1, h => by
    obtain ⟨h1, h2⟩ := leastF_gr l k (by omega)
    obtain ⟨b, h3, _, h4⟩ := best_gr h1 (by omega)
    unfold leastF
    rw [h3]
    exact ⟨h4, by simp [h2]⟩
theorem leastX_gr (l : List Ev) : Gr l (leastX l) := (leastF_gr l _ (Nat.le_refl _)).1
theorem leastX_len (l : List Ev) : (leastX l).length = l.length := (leastF_gr l _ (Nat.le_refl _)).2
theorem leastX_eq {l : List Ev} {out : List Nat} (h : Gr l out) (hl : out.length = l.length) : out = leastX l := gr_det h (leastX_gr l) (hl.trans (leastX_len l).symm)
theorem leastF_eq {l : List Ev} {out : List Nat} (h : Gr l out) (hl : out.length ≤ l.length) : out = leastF l out.length := gr_det h (leastF_gr l _ hl).1 (leastF_gr l _ hl).2.symm
/-- a trace's least form. -/
def leastE (l : List Ev) : List Ev := (leastX l).map (ev l)
theorem leastE_lf (l : List Ev) : LF l (leastE l) := gr_lf (leastX_gr l) (leastX_len l)
theorem leastE_iff {l m : List Ev} : leastE l = leastE m ↔ Tq l m :=
  ⟨fun h => tq_of_lf (leastE_lf l) (by rw [h]; exact leastE_lf m), fun h => lf_tq h (leastE_lf l) (leastE_lf m)⟩
/-- how many of those ahead of an event are not out yet. -/
def lf (l : List Ev) (out : List Nat) (k : Nat) : Nat := ((List.range k).filter fun i => hb l i k && decide (i ∉ out)).length
def pastL (l : List Ev) (j : Nat) : List Nat := (List.range j).filter fun i => hb l i j
def futL (l : List Ev) (i : Nat) : List Nat := (List.range l.length).filter fun j => hb l i j
theorem lf_nil (l : List Ev) (k : Nat) : lf l [] k = (pastL l k).length := by
  unfold lf pastL
  congr 1
  exact List.filter_congr fun i _ => by simp
theorem lf_zero {l : List Ev} {out : List Nat} {k : Nat} : lf l out k = 0 ↔ ∀ i, hb l i k = true → i ∈ out := by
  unfold lf
  rw [List.length_eq_zero_iff, List.filter_eq_nil_iff]
  constructor
  · intro h i hi
    have := h i (List.mem_range.2 (hb_lt hi))
    rw [hi] at this
    simpa using this
  · intro h i _
    cases hi : hb l i k with
    | false => simp
    | true => simp [h i hi]
theorem rdy_lf {l : List Ev} {out : List Nat} {k : Nat} (hk : k < l.length) (ho : k ∉ out) : Rdy l out k ↔ lf l out k = 0 := by
  rw [lf_zero]
  exact ⟨fun h => h.2.2, fun h => ⟨hk, ho, h⟩⟩
theorem count_one {n i : Nat} {p q : Nat → Bool} (hi : i < n) (hp : p i = true) (hq : q i = false) (ho : ∀ j, j ≠ i → p j = q j) : ((List.range n).filter p).length = ((List.range n).filter q).length + 1 := by
  obtain ⟨r, hr, hgt⟩ := range_split hi
  rw [hr, List.filter_append, List.filter_append, List.filter_cons, List.filter_cons, if_pos hp, if_neg (by rw [hq]; decide)]
  rw [List.filter_congr (q := q) (l := List.range i) fun j hj => ho j (by have := List.mem_range.1 hj; omega), List.filter_congr (q := q) (l := r) fun j hj => ho j (by have := hgt j hj; omega)]
  simp only [List.length_append, List.length_cons]
  omega
theorem lf_step {l : List Ev} {out : List Nat} {i k : Nat} (hi : i ∉ out) : lf l out k = lf l (out ++ [i]) k + if hb l i k then 1 else 0 := by
  unfold lf
  cases h : hb l i k with
  | true =>
    rw [if_pos rfl]
    refine count_one (hb_lt h) (by simp [h, hi]) (by simp) fun j hj => ?_
    simp [hj]
  | false =>
    simp only [Bool.false_eq_true, if_false, Nat.add_zero]
    congr 1
    refine List.filter_congr fun j _ => ?_
    by_cases e : j = i
    · subst e; simp [h]
    · simp [e]
/-- who is ready behind one more. -/
theorem rdy_step {l : List Ev} {out : List Nat} {i : Nat} (hd : Dn l out) (hi : Rdy l out i) (k : Nat) : Rdy l (out ++ [i]) k ↔ (Rdy l out k ∧ k ≠ i) ∨ (k ∈ futL l i ∧ lf l (out ++ [i]) k = 0) := by
  constructor
  · rintro ⟨h1, h2, h3⟩
    simp only [List.mem_append, List.mem_singleton, not_or] at h2
    cases h : hb l i k with
    | true => exact .inr ⟨List.mem_filter.2 ⟨List.mem_range.2 h1, h⟩, lf_zero.2 h3⟩
    | false =>
      refine .inl ⟨⟨h1, h2.1, fun a ha => ?_⟩, h2.2⟩
      rcases List.mem_append.1 (h3 a ha) with h4 | h4
      · exact h4
      · obtain rfl := List.mem_singleton.1 h4
        rw [h] at ha; cases ha
  · rintro (⟨⟨h1, h2, h3⟩, h4⟩ | ⟨h1, h2⟩)
    · exact ⟨h1, by simp [h2, h4], fun a ha => List.mem_append_left _ (h3 a ha)⟩
    · obtain ⟨h3, h4⟩ := List.mem_filter.1 h1
      refine ⟨List.mem_range.1 h3, fun ho => ?_, lf_zero.1 h2⟩
      rcases List.mem_append.1 ho with h5 | h5
      · exact hi.2.1 (hd.down k h5 i h4)
      · obtain rfl := List.mem_singleton.1 h5
        have := hb_lt h4
        omega
end Go.Proofs.Ytaalinhkikmfaaa
