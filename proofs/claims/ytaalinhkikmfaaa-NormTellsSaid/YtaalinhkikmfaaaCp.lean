/- clocks and what happens ahead of what. Plain: no program. -/
import Derived.Test.YtaalinhkikmfaaaNum
set_option linter.unusedSimpArgs false
set_option linter.unusedVariables false
namespace Go.Proofs.Ytaalinhkikmfaaa

/-- an event: its thread, its kind, its object. -/
structure Ev where
  t : Int
  k : Int
  o : Int
  deriving DecidableEq
def Ev.zero : Ev := ⟨0, 0, 0⟩
def isMx (k : Int) : Bool := decide (k = 3 ∨ k = 4)
def isVr (k : Int) : Bool := decide (k = 1 ∨ k = 2)
def dpd (a b : Ev) : Bool := decide (a.t = b.t) || (decide (a.o = b.o) && ((isMx a.k && isMx b.k) || (isVr a.k && isVr b.k && decide (a.k = 2 ∨ b.k = 2))))
theorem dpd_symm (a b : Ev) : dpd a b = dpd b a := by
  unfold dpd
  rw [Bool.and_comm (isMx a.k), Bool.and_comm (isVr a.k)]
  congr 1
  · exact decide_eq_decide.2 eq_comm
  · congr 1
    · exact decide_eq_decide.2 eq_comm
    · congr 2
      exact decide_eq_decide.2 or_comm
theorem dpd_same {a b : Ev} (h : a.t = b.t) : dpd a b = true := by simp [dpd, h]
def ev (l : List Ev) (i : Nat) : Ev := l.getD i Ev.zero
/-- how many events of a thread are among the first k. -/
def own (l : List Ev) (k : Nat) (t : Int) : Nat := ((List.range k).filter fun i => decide ((ev l i).t = t)).length
theorem own_succ (l : List Ev) (k : Nat) (t : Int) : own l (k + 1) t = own l k t + if (ev l k).t = t then 1 else 0 := by
  unfold own
  rw [List.range_succ, List.filter_append, List.length_append]
  by_cases h : (ev l k).t = t <;> simp [h]
/-- the greatest of f over the indexes below k that are wanted. -/
def top (k : Nat) (p : Nat → Bool) (f : Nat → Nat) : Nat := (List.range k).foldl (fun m i => if p i then max m (f i) else m) 0
theorem top_succ (k : Nat) (p : Nat → Bool) (f : Nat → Nat) : top (k + 1) p f = if p k then max (top k p f) (f k) else top k p f := by
  unfold top
  rw [List.range_succ, List.foldl_append]; rfl
theorem le_top (p : Nat → Bool) (f : Nat → Nat) (r : Nat) (hr : 1 ≤ r) : ∀ k, r ≤ top k p f ↔ ∃ i, i < k ∧ p i = true ∧ r ≤ f i
  | 0 => by simp [top]; omega
  | k + 1 => by
    rw [top_succ]
    have ih := le_top p f r hr k
    constructor
    · intro h
      by_cases hp : p k = true
      · rw [if_pos hp] at h
        by_cases h1 : r ≤ top k p f
        · obtain ⟨i, h2, h3, h4⟩ := ih.1 h1
          exact ⟨i, by omega, h3, h4⟩
        · exact ⟨k, by omega, hp, by omega⟩
      · rw [if_neg hp] at h
        obtain ⟨i, h2, h3, h4⟩ := ih.1 h
        exact ⟨i, by omega, h3, h4⟩
    · rintro ⟨i, h2, h3, h4⟩
      by_cases hi : i = k
      · subst hi
        rw [if_pos h3]; omega
      · have h1 := ih.2 ⟨i, by omega, h3, h4⟩
        split <;> omega
theorem nat_eq_of_le {a b : Nat} (h : ∀ r, 1 ≤ r → (r ≤ a ↔ r ≤ b)) : a = b := by
  rcases Nat.lt_trichotomy a b with h1 | h1 | h1
  · have := (h b (by omega)).2 (Nat.le_refl _); omega
  · exact h1
  · have := (h a (by omega)).1 (Nat.le_refl _); omega
/-- the clock of an event behind the first k ones, whose clocks are c. -/
def nxt (l : List Ev) (k : Nat) (c : Nat → Nat → Nat) (e : Ev) (t : Nat) : Nat :=
  if (t : Int) = e.t then own l k e.t + 1 else top k (fun i => dpd (ev l i) e) (fun i => c i t)
theorem nxt_congr {l l' : List Ev} {k : Nat} {c c' : Nat → Nat → Nat} {e : Ev} {t : Nat} (h1 : ∀ i, i < k → ev l i = ev l' i) (h2 : ∀ i, i < k → c i t = c' i t) : nxt l k c e t = nxt l' k c' e t := by
  unfold nxt
  split
  · congr 1
    unfold own
    congr 1
    exact List.filter_congr fun i hi => by rw [h1 i (by simpa using hi)]
  · apply nat_eq_of_le
    intro r hr
    rw [le_top _ _ _ hr, le_top _ _ _ hr]
    constructor
    · rintro ⟨i, a, b, c⟩
      exact ⟨i, a, by rw [← h1 i a]; exact b, by rw [← h2 i a]; exact c⟩
    · rintro ⟨i, a, b, c⟩
      exact ⟨i, a, by rw [h1 i a]; exact b, by rw [h2 i a]; exact c⟩
/-- the clocks of a trace: of the j-th event, of thread t. -/
def clkF (l : List Ev) : Nat → Nat → Nat → Nat
  | 0 => fun _ _ => 0
  | k + 1 => fun j t => if j = k then nxt l k (clkF l k) (ev l k) t else clkF l k j t
def clk (l : List Ev) (j t : Nat) : Nat := clkF l (j + 1) j t
theorem clkF_at (l : List Ev) : ∀ (k j t : Nat), j < k → clkF l k j t = clk l j t
  | 0, _, _, h => by omega
  | k + 1, j, t, h => by
    by_cases e : j = k
    · subst e; rfl
    · show (if j = k then _ else _) = _
      rw [if_neg e, clkF_at l k j t (by omega)]
theorem clk_eq (l : List Ev) (j t : Nat) : clk l j t = nxt l j (clk l) (ev l j) t := by
  show (if j = j then _ else _) = _
  rw [if_pos rfl]
  exact nxt_congr (fun _ _ => rfl) (fun i hi => clkF_at l j i t hi)
theorem clk_own (l : List Ev) (j t : Nat) (h : (t : Int) = (ev l j).t) : clk l j t = own l j (t : Int) + 1 := by
  rw [clk_eq, nxt, if_pos h, h]
theorem clk_other (l : List Ev) (j t : Nat) (h : (t : Int) ≠ (ev l j).t) : clk l j t = top j (fun i => dpd (ev l i) (ev l j)) (fun i => clk l i t) := by
  rw [clk_eq, nxt, if_neg h]
/-- what happens ahead: it is depended on, or through a third one. -/
def hbF (l : List Ev) : Nat → Nat → Nat → Bool
  | 0, _, _ => false
  | f + 1, i, j => decide (i < j) && (dpd (ev l i) (ev l j) || (List.range j).any fun k => decide (i < k) && hbF l f i k && dpd (ev l k) (ev l j))
def hb (l : List Ev) (i j : Nat) : Bool := hbF l j i j
theorem hbF_any (l : List Ev) : ∀ (f g i j : Nat), j ≤ f → j ≤ g → hbF l f i j = hbF l g i j
  | 0, 0, _, _, _, _ => rfl
  | 0, g + 1, i, j, h, _ => by
    obtain rfl : j = 0 := by omega
    simp [hbF]
  | f + 1, 0, i, j, _, h => by
    obtain rfl : j = 0 := by omega
    simp [hbF]
  | f + 1, g + 1, i, j, hf, hg => by
    rw [hbF, hbF]
    congr 2
    rw [Bool.eq_iff_iff, List.any_eq_true, List.any_eq_true]
    constructor
    · rintro ⟨k, hk, h⟩
      have hk' : k < j := by simpa using hk
      exact ⟨k, hk, by rw [← hbF_any l f g i k (by omega) (by omega)]; exact h⟩
    · rintro ⟨k, hk, h⟩
      have hk' : k < j := by simpa using hk
      exact ⟨k, hk, by rw [hbF_any l f g i k (by omega) (by omega)]; exact h⟩
theorem hb_iff (l : List Ev) (i j : Nat) : hb l i j = true ↔ i < j ∧ (dpd (ev l i) (ev l j) = true ∨ ∃ k, i < k ∧ k < j ∧ hb l i k = true ∧ dpd (ev l k) (ev l j) = true) := by
  unfold hb
  rw [hbF_any l j (j + 1) i j (Nat.le_refl _) (by omega), hbF]
  simp only [Bool.and_eq_true, decide_eq_true_eq, Bool.or_eq_true, List.any_eq_true, List.mem_range]
  constructor
  · rintro ⟨h1, h2 | ⟨k, h3, ⟨h4, h5⟩, h6⟩⟩
    · exact ⟨h1, .inl h2⟩
    · exact ⟨h1, .inr ⟨k, h4, h3, by rw [hbF_any l k j i k (Nat.le_refl _) (by omega)]; exact h5, h6⟩⟩
  · rintro ⟨h1, h2 | ⟨k, h3, h4, h5, h6⟩⟩
    · exact ⟨h1, .inl h2⟩
    · exact ⟨h1, .inr ⟨k, h4, ⟨h3, by rw [← hbF_any l k j i k (Nat.le_refl _) (by omega)]; exact h5⟩, h6⟩⟩
theorem hb_lt {l : List Ev} {i j : Nat} (h : hb l i j = true) : i < j := ((hb_iff l i j).1 h).1
/-- which one of its thread an event is, from 1 on. -/
def rank (l : List Ev) (i : Nat) : Nat := own l i (ev l i).t + 1
theorem own_mono (l : List Ev) (t : Int) {a b : Nat} (h : a ≤ b) : own l a t ≤ own l b t := by
  induction b with
  | zero => rw [Nat.le_zero.1 h]; exact Nat.le_refl _
  | succ b ih =>
    by_cases e : a = b + 1
    · subst e; exact Nat.le_refl _
    · rw [own_succ]; have := ih (by omega); omega
theorem rank_lt (l : List Ev) {i k : Nat} (h : i < k) (ht : (ev l i).t = (ev l k).t) : rank l i < rank l k := by
  unfold rank
  have h1 := own_succ l i (ev l i).t
  rw [if_pos rfl] at h1
  have h2 := own_mono l (ev l k).t (show i + 1 ≤ k by omega)
  rw [← ht] at h2 ⊢
  omega
theorem rank_inj (l : List Ev) {i k : Nat} (ht : (ev l i).t = (ev l k).t) (h : rank l i = rank l k) : i = k := by
  rcases Nat.lt_trichotomy i k with h1 | h1 | h1
  · have := rank_lt l h1 ht; omega
  · exact h1
  · have := rank_lt l h1 ht.symm; omega
theorem rank_of (l : List Ev) (t : Int) : ∀ (j r : Nat), 1 ≤ r → r ≤ own l j t → ∃ k, k < j ∧ (ev l k).t = t ∧ rank l k = r
  | 0, r, h1, h2 => by simp [own] at h2; omega
  | j + 1, r, h1, h2 => by
    rw [own_succ] at h2
    by_cases e : r ≤ own l j t
    · obtain ⟨k, a, b, c⟩ := rank_of l t j r h1 e
      exact ⟨k, by omega, b, c⟩
    · by_cases ht : (ev l j).t = t
      · rw [if_pos ht] at h2
        exact ⟨j, by omega, ht, by unfold rank; rw [ht]; omega⟩
      · rw [if_neg ht] at h2; omega
theorem clk_past (l : List Ev) (j : Nat) : ∀ (t r : Nat), 1 ≤ r → (r ≤ clk l j t ↔ ∃ k, (k = j ∨ hb l k j = true) ∧ (ev l k).t = t ∧ rank l k = r) := by
  induction j using Nat.strongRecOn with
  | ind j ih =>
    intro t r hr
    by_cases ht : (t : Int) = (ev l j).t
    · rw [clk_own l j t ht]
      constructor
      · intro h
        by_cases e : r ≤ own l j t
        · obtain ⟨k, a, b, c⟩ := rank_of l t j r hr e
          exact ⟨k, .inr ((hb_iff l k j).2 ⟨a, .inl (dpd_same (b.trans ht))⟩), b, c⟩
        · refine ⟨j, .inl rfl, ht.symm, ?_⟩
          unfold rank; rw [← ht]; omega
      · rintro ⟨k, h1, h2, h3⟩
        have h4 : rank l k ≤ rank l j := by
          rcases h1 with rfl | h1
          · exact Nat.le_refl _
          · exact Nat.le_of_lt (rank_lt l (hb_lt h1) (h2.trans ht))
        have h5 : rank l j = own l j t + 1 := by unfold rank; rw [← ht]
        omega
    · rw [clk_other l j t ht, le_top _ _ _ hr]
      constructor
      · rintro ⟨i, h1, h2, h3⟩
        obtain ⟨k, h4, h5, h6⟩ := (ih i h1 t r hr).1 h3
        refine ⟨k, .inr ?_, h5, h6⟩
        rcases h4 with rfl | h4
        · exact (hb_iff l k j).2 ⟨h1, .inl h2⟩
        · have := hb_lt h4
          exact (hb_iff l k j).2 ⟨by omega, .inr ⟨i, this, h1, h4, h2⟩⟩
      · rintro ⟨k, h1, h2, h3⟩
        rcases h1 with rfl | h1
        · exact absurd h2.symm ht
        · obtain ⟨h4, h5 | ⟨i, h5, h6, h7, h8⟩⟩ := (hb_iff l k j).1 h1
          · exact ⟨k, h4, h5, (ih k h4 t r hr).2 ⟨k, .inl rfl, h2, h3⟩⟩
          · exact ⟨i, h6, h8, (ih i h6 t r hr).2 ⟨k, .inr h7, h2, h3⟩⟩
/-- CLOCKS TELL WHAT HAPPENS AHEAD OF WHAT. -/
theorem clk_hb (l : List Ev) (i j t : Nat) (ht : (ev l i).t = t) (h : i < j) : hb l i j = true ↔ clk l i t ≤ clk l j t := by
  have hi : clk l i t = rank l i := by rw [clk_own l i t ht.symm]; unfold rank; rw [ht]
  have hr : 1 ≤ rank l i := by unfold rank; omega
  rw [hi, clk_past l j t _ hr]
  constructor
  · intro h1
    exact ⟨i, .inr h1, ht, rfl⟩
  · rintro ⟨k, h1, h2, h3⟩
    obtain rfl := rank_inj l (h2.trans ht.symm) h3
    rcases h1 with rfl | h1
    · omega
    · exact h1
/-! ### neighbours changed about -/
def sw (a i : Nat) : Nat := if i = a then a + 1 else if i = a + 1 then a else i
theorem sw_sw (a i : Nat) : sw a (sw a i) = i := by unfold sw; split <;> split <;> (try split) <;> omega
theorem own_eq (l m : List Ev) (a k : Nat) (hm : ∀ i, ev m i = ev l (sw a i)) (hk : k ≤ a ∨ a + 2 ≤ k) (t : Int) : own m k t = own l k t := by
  have low : ∀ k, k ≤ a → own m k t = own l k t := fun k hk => by
    unfold own
    congr 1
    refine List.filter_congr fun i hi => ?_
    have : i < k := by simpa using hi
    rw [hm i, show sw a i = i by unfold sw; split <;> (try split) <;> omega]
  rcases hk with hk | hk
  · exact low k hk
  · obtain ⟨d, rfl⟩ : ∃ d, k = a + 2 + d := ⟨k - (a + 2), by omega⟩
    clear hk
    induction d with
    | zero =>
      show own m (a + 1 + 1) t = own l (a + 1 + 1) t
      rw [own_succ, own_succ, own_succ, own_succ, low a (Nat.le_refl _), hm a, hm (a + 1), show sw a a = a + 1 by simp [sw], show sw a (a + 1) = a by simp [sw]]
      omega
    | succ d ih =>
      show own m (a + 2 + d + 1) t = own l (a + 2 + d + 1) t
      rw [own_succ, own_succ, ih, hm, show sw a (a + 2 + d) = a + 2 + d by unfold sw; split <;> (try split) <;> omega]
theorem clk_swap (l m : List Ev) (a : Nat) (hm : ∀ i, ev m i = ev l (sw a i)) (hd : dpd (ev l a) (ev l (a + 1)) = false) (j t : Nat) : clk m j t = clk l (sw a j) t := by
  have hne : (ev l a).t ≠ (ev l (a + 1)).t := fun e => by rw [dpd_same e] at hd; cases hd
  induction j using Nat.strongRecOn generalizing t with
  | ind j ih =>
    rcases Nat.lt_trichotomy j a with h | h | h
    · have e : sw a j = j := by unfold sw; split <;> (try split) <;> omega
      rw [e, clk_eq, clk_eq l, hm j, e]
      refine nxt_congr (fun i hi => ?_) (fun i hi => ?_)
      · rw [hm i, show sw a i = i by unfold sw; split <;> (try split) <;> omega]
      · rw [ih i hi, show sw a i = i by unfold sw; split <;> (try split) <;> omega]
    · subst h
      have e : sw j j = j + 1 := by simp [sw]
      rw [e, clk_eq, clk_eq l, hm j, e]
      unfold nxt
      split
      · rw [own_eq l m j j hm (.inl (Nat.le_refl _)), own_succ, if_neg hne]
      · apply nat_eq_of_le
        intro r hr
        rw [le_top _ _ _ hr, le_top _ _ _ hr]
        constructor
        · rintro ⟨i, h1, h2, h3⟩
          have e2 : sw j i = i := by unfold sw; split <;> (try split) <;> omega
          rw [ih i h1, e2] at h3
          rw [hm i, e2] at h2
          exact ⟨i, by omega, h2, h3⟩
        · rintro ⟨i, h1, h2, h3⟩
          have hi : i ≠ j := fun e => by subst e; rw [hd] at h2; cases h2
          have e2 : sw j i = i := by unfold sw; split <;> (try split) <;> omega
          exact ⟨i, by omega, by rw [hm i, e2]; exact h2, by rw [ih i (by omega), e2]; exact h3⟩
    · by_cases h1 : j = a + 1
      · subst h1
        have e : sw a (a + 1) = a := by simp [sw]
        rw [e, clk_eq, clk_eq l, hm (a + 1), e]
        unfold nxt
        split
        · rw [own_succ, own_eq l m a a hm (.inl (Nat.le_refl _)), hm a, show sw a a = a + 1 by simp [sw], if_neg (Ne.symm hne)]
        · apply nat_eq_of_le
          intro r hr
          rw [le_top _ _ _ hr, le_top _ _ _ hr]
          constructor
          · rintro ⟨i, h1, h2, h3⟩
            have hi : i ≠ a := fun e => by
              subst e
              rw [hm i, show sw i i = i + 1 by simp [sw], dpd_symm, hd] at h2; cases h2
            have e2 : sw a i = i := by unfold sw; split <;> (try split) <;> omega
            rw [ih i h1, e2] at h3
            rw [hm i, e2] at h2
            exact ⟨i, by omega, h2, h3⟩
          · rintro ⟨i, h1, h2, h3⟩
            have e2 : sw a i = i := by unfold sw; split <;> (try split) <;> omega
            exact ⟨i, by omega, by rw [hm i, e2]; exact h2, by rw [ih i (by omega), e2]; exact h3⟩
      · have e : sw a j = j := by unfold sw; split <;> (try split) <;> omega
        rw [e, clk_eq, clk_eq l, hm j, e]
        unfold nxt
        split
        · rw [own_eq l m a j hm (.inr (by omega))]
        · apply nat_eq_of_le
          intro r hr
          rw [le_top _ _ _ hr, le_top _ _ _ hr]
          have hlt : ∀ i, i < j → sw a i < j := fun i hi => by unfold sw; split <;> (try split) <;> omega
          constructor
          · rintro ⟨i, h1, h2, h3⟩
            rw [ih i h1] at h3
            rw [hm i] at h2
            exact ⟨sw a i, hlt i h1, h2, h3⟩
          · rintro ⟨i, h1, h2, h3⟩
            exact ⟨sw a i, hlt i h1, by rw [hm, sw_sw]; exact h2, by rw [ih _ (hlt i h1), sw_sw]; exact h3⟩
/-- it says the same of a prefix. -/
theorem clk_prefix (l m : List Ev) (k : Nat) (hm : ∀ i, i < k → ev m i = ev l i) (j t : Nat) (hj : j < k) : clk m j t = clk l j t := by
  induction j using Nat.strongRecOn generalizing t with
  | ind j ih =>
    rw [clk_eq, clk_eq l, hm j hj]
    exact nxt_congr (fun i hi => hm i (by omega)) (fun i hi => ih i hi t (by omega))
end Go.Proofs.Ytaalinhkikmfaaa
