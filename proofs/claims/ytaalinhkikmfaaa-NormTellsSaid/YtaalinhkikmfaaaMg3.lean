/- several texts in one: levels of traces. Plain: no program., heaps. Plain: no program. -/
import Derived.Test.YtaalinhkikmfaaaE0
section
set_option linter.unusedSimpArgs false
set_option linter.unusedVariables false
namespace Go.Proofs.Ytaalinhkikmfaaa

theorem top_congr {k : Nat} {p p' : Nat → Bool} {f f' : Nat → Nat} (hp : ∀ i, i < k → p i = p' i) (hf : ∀ i, i < k → f i = f' i) : top k p f = top k p' f' := by
  induction k with
  | zero => rfl
  | succ k ih => rw [top_succ, top_succ, ih (fun i hi => hp i (by omega)) (fun i hi => hf i (by omega)), hp k (by omega), hf k (by omega)]
def lvF (l : List Ev) : Nat → Nat → Nat
  | 0 => fun _ => 0
  | k + 1 => fun j => if j = k then top k (fun i => hb l i k) (fun i => lvF l k i + 1) else lvF l k j
/-- an event's level. -/
def lv (l : List Ev) (j : Nat) : Nat := lvF l (j + 1) j
theorem lvF_at (l : List Ev) : ∀ (k j : Nat), j < k → lvF l k j = lv l j
  | 0, _, h => by omega
  | k + 1, j, h => by
    by_cases e : j = k
    · subst e; rfl
    · show (if j = k then _ else _) = _
      rw [if_neg e, lvF_at l k j (by omega)]
theorem lv_eq (l : List Ev) (j : Nat) : lv l j = top j (fun i => hb l i j) (fun i => lv l i + 1) := by
  show (if j = j then _ else _) = _
  rw [if_pos rfl]
  exact top_congr (fun _ _ => rfl) fun i hi => by rw [lvF_at l j i hi]
theorem lv_lt {l : List Ev} {i j : Nat} (h : hb l i j = true) : lv l i < lv l j := by
  rw [lv_eq l j]
  exact (le_top _ _ (lv l i + 1) (by omega) j).2 ⟨i, hb_lt h, h, Nat.le_refl _⟩
theorem lv_pred {l : List Ev} {j k : Nat} (h : lv l j = k + 1) : ∃ i, i < j ∧ lv l i = k := by
  rw [lv_eq l j] at h
  obtain ⟨i, h1, h2, h3⟩ := (le_top (fun i => hb l i j) (fun i => lv l i + 1) (k + 1) (by omega) j).1 (by omega)
  refine ⟨i, h1, ?_⟩
  have h4 : lv l i + 1 ≤ k + 1 := by
    rw [← h]
    exact (le_top _ _ (lv l i + 1) (by omega) j).2 ⟨i, h1, h2, Nat.le_refl _⟩
  omega
theorem lv_le (l : List Ev) (j : Nat) : lv l j ≤ j := by
  induction j using Nat.strongRecOn with
  | ind j ih =>
    rcases Nat.eq_zero_or_pos (lv l j) with h | h
    · omega
    · obtain ⟨i, h1, h2⟩ := lv_pred (l := l) (j := j) (k := lv l j - 1) (by omega)
      have := ih i h1
      omega
/-- how many levels the first k events have. -/
def nlvK (l : List Ev) (k : Nat) : Nat := top k (fun _ => true) (fun j => lv l j + 1)
def nlv (l : List Ev) : Nat := nlvK l l.length
theorem nlvK_succ (l : List Ev) (k : Nat) : nlvK l (k + 1) = max (nlvK l k) (lv l k + 1) := by
  unfold nlvK
  rw [top_succ, if_pos rfl]
theorem lv_lt_nlv {l : List Ev} {j k : Nat} (h : j < k) : lv l j < nlvK l k := (le_top _ _ (lv l j + 1) (by omega) k).2 ⟨j, h, rfl, Nat.le_refl _⟩
/-- no level is empty. -/
theorem lv_some {l : List Ev} {k : Nat} : ∀ {r : Nat}, r < nlvK l k → ∃ j, j < k ∧ lv l j = r := by
  have : ∀ (d r : Nat), r + d + 1 = nlvK l k → ∃ j, j < k ∧ lv l j = r := by
    intro d
    induction d with
    | zero =>
      intro r h
      obtain ⟨j, h1, _, h3⟩ := (le_top (fun _ => true) (fun j => lv l j + 1) (nlvK l k) (by omega) k).1 (Nat.le_refl _)
      have := lv_lt_nlv (l := l) h1
      exact ⟨j, h1, by omega⟩
    | succ d ih =>
      intro r h
      obtain ⟨j, h1, h2⟩ := ih (r + 1) (by omega)
      obtain ⟨i, h3, h4⟩ := lv_pred h2
      exact ⟨i, by omega, h4⟩
  intro r h
  exact this (nlvK l k - r - 1) r (by omega)
theorem nlvK_le (l : List Ev) (k : Nat) : nlvK l k ≤ k := by
  rcases Nat.eq_zero_or_pos (nlvK l k) with h | h
  · omega
  · obtain ⟨j, h1, h2⟩ := lv_some (l := l) (k := k) (r := nlvK l k - 1) (by omega)
    have := lv_le l j
    omega
/-- the events of a level, as they come. -/
def lat (l : List Ev) (m k : Nat) : List Nat := (List.range m).filter fun j => decide (lv l j = k)
theorem lat_succ (l : List Ev) (m k : Nat) : lat l (m + 1) k = lat l m k ++ if lv l m = k then [m] else [] := by
  unfold lat
  rw [List.range_succ, List.filter_append]
  by_cases h : lv l m = k <;> simp [h]
theorem mem_lat {l : List Ev} {m k j : Nat} : j ∈ lat l m k ↔ j < m ∧ lv l j = k := by simp [lat]
theorem lat_len (l : List Ev) (m k : Nat) : (lat l m k).length ≤ m := by
  have := List.length_filter_le (fun j => decide (lv l j = k)) (List.range m)
  unfold lat
  simpa using this
/-- a level's row: by rising threads. -/
def lrow (l : List Ev) (n k : Nat) : List Nat := (List.range n).flatMap fun (t : Nat) => (List.range l.length).filter fun j => decide (lv l j = k) && decide ((ev l j).t = (t : Int))
theorem mem_lrow {l : List Ev} {n k j : Nat} : j ∈ lrow l n k ↔ j < l.length ∧ lv l j = k ∧ ∃ t : Nat, t < n ∧ (ev l j).t = (t : Int) := by
  simp only [lrow, List.mem_flatMap, List.mem_range, List.mem_filter, Bool.and_eq_true, decide_eq_true_eq]
  constructor
  · rintro ⟨t, h1, h2, h3, h4⟩; exact ⟨h2, h3, t, h1, h4⟩
  · rintro ⟨h2, h3, t, h1, h4⟩; exact ⟨t, h1, h2, h3, h4⟩
def ByT (l : List Ev) (a : List Nat) : Prop := a.Pairwise fun i j => (ev l i).t < (ev l j).t
theorem same_level {l : List Ev} {i j : Nat} (h : lv l i = lv l j) (ht : (ev l i).t = (ev l j).t) : i = j := by
  rcases Nat.lt_trichotomy i j with h1 | h1 | h1
  · have := lv_lt (hb_same h1 ht); omega
  · exact h1
  · have := lv_lt (hb_same h1 ht.symm); omega
theorem pairwise_flatMap_range {β : Type} {R : β → β → Prop} {g : Nat → List β} : ∀ (n : Nat), (∀ t, t < n → (g t).Pairwise R) → (∀ s t, s < t → t < n → ∀ a ∈ g s, ∀ b ∈ g t, R a b) → ((List.range n).flatMap g).Pairwise R
  | 0, _, _ => by simp
  | n + 1, h1, h2 => by
    rw [List.range_succ, List.flatMap_append, List.pairwise_append]
    refine ⟨pairwise_flatMap_range n (fun t ht => h1 t (by omega)) fun s t hs ht => h2 s t hs (by omega), by simpa using h1 n (by omega), fun a ha b hb => ?_⟩
    obtain ⟨s, hs, ha⟩ := List.mem_flatMap.1 ha
    exact h2 s n (by simpa using hs) (by omega) a ha b (by simpa using hb)
theorem lrow_byT (l : List Ev) (n k : Nat) : ByT l (lrow l n k) := by
  refine pairwise_flatMap_range n (fun t _ => ?_) fun s t hst _ a ha b hb => ?_
  · have hs : ((List.range l.length).filter fun j => decide (lv l j = k) && decide ((ev l j).t = (t : Int))).Pairwise (· < ·) := List.Pairwise.filter _ List.pairwise_lt_range
    refine List.Pairwise.imp_of_mem (fun {a b} ha hb hlt => ?_) hs
    simp only [List.mem_filter, Bool.and_eq_true, decide_eq_true_eq] at ha hb
    have := same_level (l := l) (i := a) (j := b) (by omega) (by omega)
    omega
  · simp only [List.mem_filter, Bool.and_eq_true, decide_eq_true_eq] at ha hb
    omega
theorem byT_ext {l : List Ev} : ∀ {a b : List Nat}, ByT l a → ByT l b → (∀ i, i ∈ a ↔ i ∈ b) → a = b
  | [], [], _, _, _ => rfl
  | [], y :: b, _, _, h => absurd ((h y).2 (by simp)) (by simp)
  | x :: a, [], _, _, h => absurd ((h x).1 (by simp)) (by simp)
  | x :: a, y :: b, ha, hb, h => by
    obtain ⟨a1, a2⟩ := List.pairwise_cons.1 ha
    obtain ⟨b1, b2⟩ := List.pairwise_cons.1 hb
    have e : x = y := by
      rcases List.mem_cons.1 ((h x).1 (by simp)) with h1 | h1
      · exact h1
      · rcases List.mem_cons.1 ((h y).2 (by simp)) with h2 | h2
        · exact h2.symm
        · have := a1 y h2; have := b1 x h1; omega
    subst e
    congr 1
    refine byT_ext a2 b2 fun i => ?_
    constructor
    · intro hi
      rcases List.mem_cons.1 ((h i).1 (by simp [hi])) with rfl | h1
      · have := a1 i hi; omega
      · exact h1
    · intro hi
      rcases List.mem_cons.1 ((h i).2 (by simp [hi])) with rfl | h1
      · have := b1 i hi; omega
      · exact h1
/-- the levels, one behind the other. -/
def flatL (l : List Ev) (n : Nat) : List Nat := (List.range (nlv l)).flatMap (lrow l n)
theorem mem_flatL {l : List Ev} {n : Nat} (hg : ∀ j, j < l.length → 0 ≤ (ev l j).t ∧ (ev l j).t < n) {j : Nat} : j ∈ flatL l n ↔ j < l.length := by
  unfold flatL
  rw [List.mem_flatMap]
  constructor
  · rintro ⟨k, _, h⟩; exact (mem_lrow.1 h).1
  · intro h
    refine ⟨lv l j, List.mem_range.2 (lv_lt_nlv h), mem_lrow.2 ⟨h, rfl, ((ev l j).t).toNat, ?_, ?_⟩⟩ <;> have := hg j h <;> omega
theorem flatL_sorted (l : List Ev) (n : Nat) : (flatL l n).Pairwise fun i j => lv l i ≤ lv l j ∧ i ≠ j := by
  refine pairwise_flatMap_range _ (fun k _ => ?_) fun s t hst _ a ha b hb => ?_
  · refine List.Pairwise.imp_of_mem (fun {a b} ha hb hlt => ?_) (lrow_byT l n k)
    have ha := mem_lrow.1 ha; have hb := mem_lrow.1 hb
    refine ⟨by omega, ?_⟩
    rintro rfl
    omega
  · have ha := mem_lrow.1 ha; have hb := mem_lrow.1 hb
    refine ⟨by omega, ?_⟩
    rintro rfl
    omega
theorem dn_of {l : List Ev} : ∀ (n : Nat) (o : List Nat), o.length = n → (∀ p j s, o = p ++ j :: s → Rdy l p j) → Dn l o
  | 0, o, hn, _ => by obtain rfl := List.eq_nil_of_length_eq_zero hn; exact .nil
  | n + 1, o, hn, h => by
    have hne : o ≠ [] := fun e => by rw [e] at hn; simp at hn
    obtain ⟨t, y, rfl⟩ : ∃ u1 y, o = u1 ++ [y] := ⟨o.dropLast, o.getLast hne, (List.dropLast_concat_getLast hne).symm⟩
    refine .snoc (dn_of n t (by simpa using hn) fun p j s e => h p j (s ++ [y]) (by rw [e]; simp)) (h t y [] rfl)
theorem flatL_dn {l : List Ev} {n : Nat} (hg : ∀ j, j < l.length → 0 ≤ (ev l j).t ∧ (ev l j).t < n) : Dn l (flatL l n) := by
  refine dn_of _ _ rfl fun p j s e => ?_
  have hs := flatL_sorted l n
  rw [e] at hs
  obtain ⟨_, h2, h3⟩ := List.pairwise_append.1 hs
  have h2 := (List.pairwise_cons.1 h2).1
  refine ⟨(mem_flatL hg).1 (by rw [e]; simp), fun hj => (h3 j hj j (by simp)).2 rfl, fun i hi => ?_⟩
  have hlt := lv_lt hi
  have : i ∈ flatL l n := (mem_flatL hg).2 (by
    have := hb_lt hi
    have : j < l.length := (mem_flatL hg).1 (by rw [e]; simp)
    omega)
  rw [e] at this
  rcases List.mem_append.1 this with h | h
  · exact h
  · rcases List.mem_cons.1 h with rfl | h
    · omega
    · have := (h2 i h).1
      omega
theorem flatL_len {l : List Ev} {n : Nat} (hg : ∀ j, j < l.length → 0 ≤ (ev l j).t ∧ (ev l j).t < n) : (flatL l n).length = l.length := by
  have h := (flatL_dn hg).rem_len
  have : rem l (flatL l n) = [] := by
    rw [List.eq_nil_iff_forall_not_mem]
    intro i hi
    have := mem_rem.1 hi
    exact this.2 ((mem_flatL hg).2 this.1)
  rw [this] at h
  simpa using h
/-- LEVELS, ONE BEHIND THE OTHER, ARE EQUIVALENT. -/
theorem flatL_tq {l : List Ev} {n : Nat} (hg : ∀ j, j < l.length → 0 ≤ (ev l j).t ∧ (ev l j).t < n) : Tq l ((flatL l n).map (ev l)) := dn_full (flatL_dn hg) (flatL_len hg)
end Go.Proofs.Ytaalinhkikmfaaa
end

section
set_option linter.unusedSimpArgs false
set_option linter.unusedVariables false
namespace Go.Proofs.Ytaalinhkikmfaaa

def swp (a : Nat → Nat) (i j : Nat) : Nat → Nat := fun c => if c = i then a j else if c = j then a i else a c
theorem swp_i (a : Nat → Nat) (i j : Nat) : swp a i j i = a j := if_pos rfl
theorem swp_j (a : Nat → Nat) (i j : Nat) : swp a i j j = a i := by unfold swp; split <;> simp_all
theorem swp_o (a : Nat → Nat) {i j c : Nat} (h1 : c ≠ i) (h2 : c ≠ j) : swp a i j c = a c := by unfold swp; rw [if_neg h1, if_neg h2]
/-- a heap of n places. -/
def HeapP (k : Nat → Int) (a : Nat → Nat) (n : Nat) : Prop := ∀ c, 0 < c → c < n → k (a ((c - 1) / 2)) ≤ k (a c)
def UpP (k : Nat → Int) (a : Nat → Nat) (n j : Nat) : Prop :=
  (∀ c, 0 < c → c < n → c ≠ j → k (a ((c - 1) / 2)) ≤ k (a c)) ∧ (∀ c, 0 < c → c < n → (c - 1) / 2 = j → 0 < j → k (a ((j - 1) / 2)) ≤ k (a c))
def DownP (k : Nat → Int) (a : Nat → Nat) (n i : Nat) : Prop :=
  (∀ c, 0 < c → c < n → (c - 1) / 2 ≠ i → k (a ((c - 1) / 2)) ≤ k (a c)) ∧ (∀ c, 0 < c → c < n → (c - 1) / 2 = i → 0 < i → k (a ((i - 1) / 2)) ≤ k (a c))
theorem up_step {k : Nat → Int} {a : Nat → Nat} {n j : Nat} (h : UpP k a n j) (h0 : 0 < j) (hj : j < n) (hlt : k (a j) < k (a ((j - 1) / 2))) : UpP k (swp a ((j - 1) / 2) j) n ((j - 1) / 2) := by
  obtain ⟨h1, h2⟩ := h
  generalize hi : (j - 1) / 2 = i at *
  have hij : i < j := by omega
  refine ⟨fun c c0 cn hc => ?_, fun c c0 cn hp hi0 => ?_⟩
  · by_cases hcj : c = j
    · subst hcj
      rw [hi, swp_i, swp_j]; omega
    · rw [swp_o a hc hcj]
      by_cases hp : (c - 1) / 2 = i
      · rw [hp, swp_i]
        have := h1 c c0 cn hcj
        rw [hp] at this
        omega
      · by_cases hp2 : (c - 1) / 2 = j
        · rw [hp2, swp_j]
          exact h2 c c0 cn hp2 h0
        · rw [swp_o a hp hp2]
          exact h1 c c0 cn hcj
  · rw [swp_o a (show (i - 1) / 2 ≠ i by omega) (show (i - 1) / 2 ≠ j by omega)]
    have h3 := h1 i hi0 (by omega) (by omega)
    by_cases hcj : c = j
    · subst hcj
      rw [swp_j]; exact h3
    · rw [swp_o a (show c ≠ i by omega) hcj]
      have := h1 c c0 cn hcj
      rw [hp] at this
      omega
theorem up_stop {k : Nat → Int} {a : Nat → Nat} {n j : Nat} (h : UpP k a n j) (hs : j = 0 ∨ ¬ k (a j) < k (a ((j - 1) / 2))) : HeapP k a n := fun c c0 cn => by
  by_cases hc : c = j
  · subst hc
    rcases hs with hs | hs
    · omega
    · omega
  · exact h.1 c c0 cn hc
theorem down_step {k : Nat → Int} {a : Nat → Nat} {n i j : Nat} (h : DownP k a n i) (hj : j < n) (hp : (j - 1) / 2 = i) (hj0 : 0 < j) (hm : ∀ c, 0 < c → c < n → (c - 1) / 2 = i → k (a j) ≤ k (a c)) (hlt : k (a j) < k (a i)) : DownP k (swp a i j) n j := by
  obtain ⟨h1, h2⟩ := h
  have hij : i < j := by omega
  refine ⟨fun c c0 cn hc => ?_, fun c c0 cn hpc _ => ?_⟩
  · by_cases hci : c = i
    · subst hci
      rw [swp_i, swp_o a (show (c - 1) / 2 ≠ c by omega) (show (c - 1) / 2 ≠ j by omega)]
      exact h2 j hj0 hj hp c0
    · by_cases hcj : c = j
      · subst hcj
        rw [hp, swp_i, swp_j]; omega
      · rw [swp_o a hci hcj]
        by_cases hp2 : (c - 1) / 2 = i
        · rw [hp2, swp_i]
          exact hm c c0 cn hp2
        · rw [swp_o a hp2 hc]
          exact h1 c c0 cn hp2
  · rw [hp, swp_i, swp_o a (show c ≠ i by omega) (show c ≠ j by omega)]
    have := h1 c c0 cn (by omega)
    rw [hpc] at this
    exact this
theorem down_stop {k : Nat → Int} {a : Nat → Nat} {n i : Nat} (h : DownP k a n i) (hs : ∀ c, 0 < c → c < n → (c - 1) / 2 = i → ¬ k (a c) < k (a i)) : HeapP k a n := fun c c0 cn => by
  by_cases hp : (c - 1) / 2 = i
  · have := hs c c0 cn hp
    rw [hp]; omega
  · exact h.1 c c0 cn hp
theorem heap_root {k : Nat → Int} {a : Nat → Nat} {n : Nat} (h : HeapP k a n) : ∀ c, c < n → k (a 0) ≤ k (a c) := by
  intro c
  induction c using Nat.strongRecOn with
  | ind c ih =>
    intro hc
    rcases Nat.eq_zero_or_pos c with rfl | h0
    · exact Int.le_refl _
    · exact Int.le_trans (ih ((c - 1) / 2) (by omega) (by omega)) (h c h0 hc)
/-- what lies in the places. -/
def Has (a : Nat → Nat) (n : Nat) (x : Nat) : Prop := ∃ i, i < n ∧ a i = x
def InjP (a : Nat → Nat) (n : Nat) : Prop := ∀ i j, i < n → j < n → a i = a j → i = j
theorem swp_at (a : Nat → Nat) (i j c : Nat) : swp a i j c = a (if c = i then j else if c = j then i else c) := by unfold swp; split <;> (try split) <;> rfl
theorem has_swp {a : Nat → Nat} {n i j : Nat} (hi : i < n) (hj : j < n) (x : Nat) : Has (swp a i j) n x ↔ Has a n x := by
  have key : ∀ c, c < n → (if c = i then j else if c = j then i else c) < n := fun c hc => by split <;> (try split) <;> omega
  constructor
  · rintro ⟨c, hc, rfl⟩
    exact ⟨_, key c hc, (swp_at a i j c).symm⟩
  · rintro ⟨c, hc, rfl⟩
    refine ⟨_, key c hc, ?_⟩
    rw [swp_at]
    congr 1
    split <;> (try split) <;> (try split) <;> (try split) <;> omega
theorem inj_swp {a : Nat → Nat} {n i j : Nat} (hi : i < n) (hj : j < n) (h : InjP a n) : InjP (swp a i j) n := fun c d hc hd e => by
  rw [swp_at, swp_at] at e
  have := h _ _ (by split <;> (try split) <;> omega) (by split <;> (try split) <;> omega) e
  split at this <;> split at this <;> (try split at this) <;> (try split at this) <;> omega
/-- a heap of just these. -/
structure HeapS (k : Nat → Int) (a : Nat → Nat) (n : Nat) (S : Nat → Prop) : Prop where
  heap : HeapP k a n
  inj : InjP a n
  has : ∀ x, S x ↔ Has a n x
def putA (a : Nat → Nat) (n x : Nat) : Nat → Nat := fun i => if i = n then x else a i
theorem push_up {k : Nat → Int} {a : Nat → Nat} {n : Nat} (h : HeapP k a n) (x : Nat) : UpP k (putA a n x) (n + 1) n := by
  refine ⟨fun c c0 cn hc => ?_, fun c c0 cn hp _ => by omega⟩
  unfold putA
  rw [if_neg (by omega), if_neg hc]
  exact h c c0 (by omega)
theorem push_inj {a : Nat → Nat} {n x : Nat} (h : InjP a n) (hx : ¬ Has a n x) : InjP (putA a n x) (n + 1) := fun i j hi hj e => by
  unfold putA at e
  split at e <;> split at e
  · omega
  · exact absurd ⟨j, by omega, e.symm⟩ hx
  · exact absurd ⟨i, by omega, e⟩ hx
  · exact h i j (by omega) (by omega) e
theorem push_has {a : Nat → Nat} {n x : Nat} (y : Nat) : Has (putA a n x) (n + 1) y ↔ Has a n y ∨ y = x := by
  constructor
  · rintro ⟨i, hi, rfl⟩
    unfold putA
    split
    · exact .inr rfl
    · exact .inl ⟨i, by omega, rfl⟩
  · rintro (⟨i, hi, rfl⟩ | rfl)
    · exact ⟨i, by omega, by unfold putA; rw [if_neg (by omega)]⟩
    · exact ⟨n, by omega, by simp [putA]⟩
theorem pop_down {k : Nat → Int} {a : Nat → Nat} {n : Nat} (h : HeapP k a (n + 1)) : DownP k (swp a 0 n) n 0 := by
  refine ⟨fun c c0 cn hc => ?_, fun c c0 cn hp h0 => by omega⟩
  rw [swp_o a hc (by omega), swp_o a (by omega) (by omega)]
  exact h c c0 (by omega)
theorem inj_less {a : Nat → Nat} {n m : Nat} (h : InjP a n) (hm : m ≤ n) : InjP a m := fun i j hi hj e => h i j (by omega) (by omega) e
/-- behind the last one is taken away. -/
theorem has_last {a : Nat → Nat} {n : Nat} (h : InjP a (n + 1)) (x : Nat) : Has a n x ↔ Has a (n + 1) x ∧ x ≠ a n := by
  constructor
  · rintro ⟨i, hi, rfl⟩
    exact ⟨⟨i, by omega, rfl⟩, fun e => by have := h i n (by omega) (by omega) e; omega⟩
  · rintro ⟨⟨i, hi, rfl⟩, hne⟩
    refine ⟨i, ?_, rfl⟩
    by_cases e : i = n
    · subst e; exact absurd rfl hne
    · omega
theorem has_congr {a b : Nat → Nat} {n : Nat} (h : ∀ i, i < n → a i = b i) (x : Nat) : Has a n x ↔ Has b n x :=
  ⟨fun ⟨i, hi, e⟩ => ⟨i, hi, (h i hi).symm.trans e⟩, fun ⟨i, hi, e⟩ => ⟨i, hi, (h i hi).trans e⟩⟩
end Go.Proofs.Ytaalinhkikmfaaa
end
