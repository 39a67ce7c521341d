/- least forms of traces. Plain: no program. -/
import Derived.Test.YtaalinhkikmfaaaCp
set_option linter.unusedSimpArgs false
set_option linter.unusedVariables false
namespace Go.Proofs.Ytaalinhkikmfaaa

/-- nothing of u is depended on. -/
def Free (u : List Ev) (x : Ev) : Prop := ∀ y ∈ u, dpd y x = false
def Spl (r u : List Ev) (x : Ev) (v : List Ev) : Prop := r = u ++ x :: v ∧ Free u x
theorem spl_unique {r u u' v v' : List Ev} {x x' : Ev} (h : Spl r u x v) (h' : Spl r u' x' v') (ht : x.t = x'.t) : u = u' ∧ x = x' ∧ v = v' := by
  obtain ⟨h1, h2⟩ := h; obtain ⟨h3, h4⟩ := h'
  rw [h1] at h3
  rcases List.append_eq_append_iff.1 h3 with ⟨c, e1, e2⟩ | ⟨c, e1, e2⟩
  · cases c with
    | nil =>
      rw [List.append_nil] at e1
      rw [List.nil_append] at e2
      injection e2 with e3 e4
      exact ⟨e1.symm, e3, e4⟩
    | cons z c =>
      injection e2 with e3 _
      have := h4 x (by rw [e1, e3]; simp)
      rw [dpd_same ht] at this; cases this
  · cases c with
    | nil =>
      rw [List.append_nil] at e1
      rw [List.nil_append] at e2
      injection e2 with e3 e4
      exact ⟨e1, e3.symm, e4.symm⟩
    | cons z c =>
      injection e2 with e3 _
      have := h2 x' (by rw [e1, e3]; simp)
      rw [dpd_same ht.symm] at this; cases this
/-- x is the least form of r. -/
inductive LF : List Ev → List Ev → Prop
  | nil : LF [] []
  | cons {r out u v : List Ev} {x : Ev} : Spl r u x v → (∀ u' x' v', Spl r u' x' v' → x.t ≤ x'.t) → LF (u ++ v) out → LF r (x :: out)
theorem spl_nil {u v : List Ev} {x : Ev} : ¬ Spl [] u x v := fun h => by
  have := congrArg List.length h.1
  simp at this
/-- neighbours changed about. -/
def Sw (l m : List Ev) : Prop := ∃ u a b v, l = u ++ a :: b :: v ∧ m = u ++ b :: a :: v ∧ dpd a b = false
theorem Sw.symm {l m : List Ev} (h : Sw l m) : Sw m l := by
  obtain ⟨u, a, b, v, h1, h2, h3⟩ := h
  exact ⟨u, b, a, v, h2, h1, by rw [dpd_symm]; exact h3⟩
theorem Sw.length {l m : List Ev} (h : Sw l m) : l.length = m.length := by
  obtain ⟨u, a, b, v, rfl, rfl, _⟩ := h
  simp
theorem sw_spl {l m p s : List Ev} {e : Ev} (h : Sw l m) (hs : Spl l p e s) : ∃ p' s', Spl m p' e s' ∧ (p ++ s = p' ++ s' ∨ Sw (p ++ s) (p' ++ s')) := by
  obtain ⟨u, a, b, v, rfl, rfl, hd⟩ := h
  obtain ⟨h1, h2⟩ := hs
  have hd' : dpd b a = false := by rw [dpd_symm]; exact hd
  rcases List.append_eq_append_iff.1 h1 with ⟨c, e1, e2⟩ | ⟨c, e1, e2⟩
  · match c, e1, e2 with
    | [], e1, e2 =>
      injection e2 with e3 e4
      subst e3; subst e4; subst e1
      refine ⟨u ++ [b], v, ⟨by simp, fun y hy => ?_⟩, .inl (by simp)⟩
      rcases List.mem_append.1 hy with hy | hy
      · exact h2 y (by simp [hy])
      · obtain rfl : y = b := by simpa using hy
        exact hd'
    | [z], e1, e2 =>
      injection e2 with e3 e4
      injection e4 with e4 e5
      subst e3; subst e4; subst e5; subst e1
      exact ⟨u, a :: v, ⟨rfl, fun y hy => h2 y (by simp [hy])⟩, .inl (by simp)⟩
    | z :: z2 :: c, e1, e2 =>
      injection e2 with e3 e4
      injection e4 with e4 e5
      subst e3; subst e4; subst e5; subst e1
      refine ⟨u ++ b :: a :: c, s, ⟨by simp, fun y hy => h2 y ?_⟩, .inr ⟨u, a, b, c ++ s, by simp, by simp, hd⟩⟩
      simp only [List.mem_append, List.mem_cons] at hy ⊢
      rcases hy with h | h | h | h
      · exact .inl h
      · exact .inr (.inr (.inl h))
      · exact .inr (.inl h)
      · exact .inr (.inr (.inr h))
  · match c, e1, e2 with
    | [], e1, e2 =>
      injection e2 with e3 e4
      subst e3; subst e4
      rw [List.append_nil] at e1
      subst e1
      refine ⟨u ++ [b], v, ⟨by simp, fun y hy => ?_⟩, .inl (by simp)⟩
      rcases List.mem_append.1 hy with hy | hy
      · exact h2 y hy
      · obtain rfl : y = b := by simpa using hy
        exact hd'
    | z :: c, e1, e2 =>
      injection e2 with e3 e4
      subst e3; subst e4; subst e1
      exact ⟨p, c ++ b :: a :: v, ⟨by simp, h2⟩, .inr ⟨p ++ c, a, b, v, by simp, by simp, hd⟩⟩
theorem lf_sw {l x : List Ev} (h : LF l x) : ∀ {m y : List Ev}, (l = m ∨ Sw l m) → LF m y → x = y := by
  induction h with
  | nil =>
    intro m y hm hy
    have : m = [] := by
      rcases hm with rfl | hm
      · rfl
      · exact List.eq_nil_of_length_eq_zero hm.length.symm
    subst this
    cases hy with
    | nil => rfl
    | cons h => exact absurd h spl_nil
  | @cons r out u v e hs hmin hrest ih =>
    intro m y hm hy
    cases hy with
    | nil =>
      rcases hm with rfl | hm
      · exact absurd hs spl_nil
      · have := hm.length
        rw [hs.1] at this
        simp at this
    | @cons _ out' u' v' e' hs' hmin' hrest' =>
      rcases hm with rfl | hm
      · obtain ⟨rfl, rfl, rfl⟩ := spl_unique hs hs' (Int.le_antisymm (hmin _ _ _ hs') (hmin' _ _ _ hs))
        rw [ih (.inl rfl) hrest']
      · obtain ⟨p, s, h1, h2⟩ := sw_spl hm hs
        obtain ⟨p', s', h3, _⟩ := sw_spl hm.symm hs'
        obtain ⟨rfl, rfl, rfl⟩ := spl_unique h1 hs' (Int.le_antisymm (hmin _ _ _ h3) (hmin' _ _ _ h1))
        rw [ih h2 hrest']
theorem min_spl (r : List Ev) : ∀ (k : Nat) (u : List Ev) (x : Ev) (v : List Ev), Spl r u x v → (r.filter fun y => decide (y.t < x.t)).length ≤ k → ∃ u' x' v', Spl r u' x' v' ∧ ∀ u2 x2 v2, Spl r u2 x2 v2 → x'.t ≤ x2.t := by
  intro k
  induction k with
  | zero =>
    intro u x v h hk
    refine ⟨u, x, v, h, fun u2 x2 v2 h2 => Int.not_lt.1 fun hlt => ?_⟩
    have hm : x2 ∈ r.filter fun y => decide (y.t < x.t) := List.mem_filter.2 ⟨by rw [h2.1]; simp, by simpa using hlt⟩
    have := List.length_pos_of_mem hm
    omega
  | succ k ih =>
    intro u x v h hk
    by_cases hall : ∀ u2 x2 v2, Spl r u2 x2 v2 → x.t ≤ x2.t
    · exact ⟨u, x, v, h, hall⟩
    · simp only [Classical.not_forall] at hall
      obtain ⟨u2, x2, v2, h2, hlt⟩ := hall
      have hlt : x2.t < x.t := Int.not_le.1 hlt
      refine ih u2 x2 v2 h2 (Nat.le_of_lt_succ (Nat.lt_of_lt_of_le ?_ hk))
      have e : (r.filter fun y => decide (y.t < x2.t)) = (r.filter fun y => decide (y.t < x.t)).filter fun y => decide (y.t < x2.t) := by
        rw [List.filter_filter]
        refine List.filter_congr fun y _ => ?_
        by_cases h1 : y.t < x2.t
        · simp [h1, Int.lt_trans h1 hlt]
        · simp [h1]
      rw [e]
      refine Nat.lt_of_le_of_ne (List.length_filter_le _ _) fun he => ?_
      have := (List.length_filter_eq_length_iff.1 he) x2 (List.mem_filter.2 ⟨by rw [h2.1]; simp, by simpa using hlt⟩)
      simp at this
theorem lf_total : ∀ (n : Nat) (r : List Ev), r.length = n → ∃ x, LF r x
  | 0, r, h => by obtain rfl := List.eq_nil_of_length_eq_zero h; exact ⟨[], .nil⟩
  | n + 1, r, h => by
    match r, h with
    | c :: r, h =>
      obtain ⟨u, x, v, h1, h2⟩ := min_spl (c :: r) _ [] c r ⟨rfl, by simp [Free]⟩ (Nat.le_refl _)
      obtain ⟨y, hy⟩ := lf_total n (u ++ v) (by have := congrArg List.length h1.1; simp at this h ⊢; omega)
      exact ⟨_, .cons h1 h2 hy⟩
/-- equivalent: by changing about again and again. -/
inductive Tq (l : List Ev) : List Ev → Prop
  | refl : Tq l l
  | step {k m : List Ev} : Tq l k → Sw k m → Tq l m
theorem Tq.trans {l m k : List Ev} (h : Tq l m) (h2 : Tq m k) : Tq l k := by
  induction h2 with
  | refl => exact h
  | step _ hs ih => exact ih.step hs
theorem Tq.symm {l m : List Ev} (h : Tq l m) : Tq m l := by
  induction h with
  | refl => exact .refl
  | step _ hs ih => exact (Tq.refl.step hs.symm).trans ih
theorem Tq.length {l m : List Ev} (h : Tq l m) : l.length = m.length := by
  induction h with
  | refl => rfl
  | step _ hs ih => exact ih.trans hs.length
theorem lf_tq {l m : List Ev} (h : Tq l m) : ∀ {x y : List Ev}, LF l x → LF m y → x = y := by
  induction h with
  | refl => intro x y hx hy; exact lf_sw hx (.inl rfl) hy
  | @step k m _ hs ih =>
    intro x y hx hy
    obtain ⟨z, hz⟩ := lf_total _ k rfl
    rw [ih hx hz]
    exact lf_sw hz (.inr hs) hy
theorem pull : ∀ (n : Nat) (w u v : List Ev) (x : Ev), u.length = n → Free u x → Tq (w ++ u ++ x :: v) (w ++ x :: u ++ v)
  | 0, w, u, v, x, hn, h => by
    obtain rfl := List.eq_nil_of_length_eq_zero hn
    simpa using Tq.refl
  | n + 1, w, u, v, x, hn, h => by
    have hne : u ≠ [] := fun e => by rw [e] at hn; simp at hn
    obtain ⟨u1, y, rfl⟩ : ∃ u1 y, u = u1 ++ [y] := ⟨u.dropLast, u.getLast hne, (List.dropLast_concat_getLast hne).symm⟩
    have h1 : Tq (w ++ (u1 ++ [y]) ++ x :: v) (w ++ u1 ++ x :: y :: v) := Tq.refl.step ⟨w ++ u1, y, x, v, by simp, by simp, h y (by simp)⟩
    refine h1.trans ?_
    have := pull n w u1 (y :: v) x (by simpa using hn) fun z hz => h z (by simp [hz])
    simpa using this
theorem lf_eq {l x : List Ev} (h : LF l x) : ∀ w : List Ev, Tq (w ++ l) (w ++ x) := by
  induction h with
  | nil => intro w; exact .refl
  | @cons r out u v e hs hmin hrest ih =>
    intro w
    rw [hs.1, ← List.append_assoc]
    refine (pull _ w u v e rfl hs.2).trans ?_
    have := ih (w ++ [e])
    simpa using this
theorem lf_equiv {l x : List Ev} (h : LF l x) : Tq l x := lf_eq h []
theorem tq_of_lf {l m x : List Ev} (h : LF l x) (h2 : LF m x) : Tq l m := (lf_equiv h).trans (lf_equiv h2).symm
theorem lf_self {l x : List Ev} (h : LF l x) : LF x x := by
  obtain ⟨y, hy⟩ := lf_total _ x rfl
  have := lf_tq (lf_equiv h) h hy
  subst this
  exact hy
/-- as assizelaw15's first: by threads. -/
def first : List Ev → List Ev → Bool
  | a :: r, b :: s => if a.t = b.t then first r s else decide (a.t < b.t)
  | _, _ => true
theorem lf_first {l x : List Ev} (h : LF l x) : first x l = true := by
  induction h with
  | nil => rfl
  | @cons r out u v e hs hmin hrest ih =>
    match r, hs, hmin with
    | [], hs, _ => exact absurd hs spl_nil
    | c :: r, hs, hmin =>
      have h0 : Spl (c :: r) [] c r := ⟨rfl, by simp [Free]⟩
      unfold first
      split
      · rename_i ht
        obtain ⟨rfl, rfl, rfl⟩ := spl_unique hs h0 ht
        exact ih
      · rename_i ht
        have := hmin _ _ _ h0
        exact decide_eq_true (by omega)
/-- of two letters that depend the order stays. -/
theorem tq_proj {l m : List Ev} (h : Tq l m) (a b : Ev) (hd : dpd a b = true) : (l.filter fun z => decide (z = a ∨ z = b)) = m.filter fun z => decide (z = a ∨ z = b) := by
  induction h with
  | refl => rfl
  | @step k m _ hs ih =>
    rw [ih]
    obtain ⟨u, c, d, v, rfl, rfl, h1⟩ := hs
    have hno : ¬ ((c = a ∨ c = b) ∧ (d = a ∨ d = b)) := by
      rintro ⟨rfl | rfl, rfl | rfl⟩
      · rw [dpd_same rfl] at h1; cases h1
      · rw [hd] at h1; cases h1
      · rw [dpd_symm, hd] at h1; cases h1
      · rw [dpd_same rfl] at h1; cases h1
    rw [List.filter_append, List.filter_append]
    congr 1
    by_cases hc : c = a ∨ c = b
    · have hdn : ¬ (d = a ∨ d = b) := fun h => hno ⟨hc, h⟩
      simp [List.filter_cons, hc, hdn]
    · simp [List.filter_cons, hc]
theorem tq_not {u v : List Ev} {a b : Ev} (hd : dpd a b = true) (hne : a ≠ b) : ¬ Tq (u ++ a :: b :: v) (u ++ b :: a :: v) := fun h => by
  have := tq_proj h a b hd
  rw [List.filter_append, List.filter_append] at this
  have := List.append_cancel_left this
  simp [List.filter_cons] at this
  exact hne this.1
/-! ### orders of a trace's places -/
/-- which place may come next. -/
def Rdy (l : List Ev) (out : List Nat) (j : Nat) : Prop := j < l.length ∧ j ∉ out ∧ ∀ i, hb l i j = true → i ∈ out
inductive Dn (l : List Ev) : List Nat → Prop
  | nil : Dn l []
  | snoc {out : List Nat} {j : Nat} : Dn l out → Rdy l out j → Dn l (out ++ [j])
/-- the least order of all, so far. -/
inductive Gr (l : List Ev) : List Nat → Prop
  | nil : Gr l []
  | snoc {out : List Nat} {j : Nat} : Gr l out → Rdy l out j → (∀ k, Rdy l out k → (ev l j).t ≤ (ev l k).t) → Gr l (out ++ [j])
theorem Gr.dn {l : List Ev} {out : List Nat} (h : Gr l out) : Dn l out := by
  induction h with
  | nil => exact .nil
  | snoc _ h _ ih => exact .snoc ih h
theorem Dn.lt {l : List Ev} {out : List Nat} (h : Dn l out) : ∀ j ∈ out, j < l.length := by
  induction h with
  | nil => simp
  | snoc _ h ih =>
    intro j hj
    rcases List.mem_append.1 hj with hj | hj
    · exact ih j hj
    · obtain rfl := List.mem_singleton.1 hj; exact h.1
theorem Dn.nodup {l : List Ev} {out : List Nat} (h : Dn l out) : out.Nodup := by
  induction h with
  | nil => exact List.nodup_nil
  | snoc _ h ih => exact List.nodup_append.2 ⟨ih, by simp, fun a ha b hb => by obtain rfl := List.mem_singleton.1 hb; rintro rfl; exact h.2.1 ha⟩
theorem Dn.down {l : List Ev} {out : List Nat} (h : Dn l out) : ∀ j ∈ out, ∀ i, hb l i j = true → i ∈ out := by
  induction h with
  | nil => simp
  | snoc _ h ih =>
    intro j hj i hi
    rcases List.mem_append.1 hj with hj | hj
    · exact List.mem_append_left _ (ih j hj i hi)
    · obtain rfl := List.mem_singleton.1 hj; exact List.mem_append_left _ (h.2.2 i hi)
/-- what is left. -/
def rem (l : List Ev) (out : List Nat) : List Nat := (List.range l.length).filter fun i => decide (i ∉ out)
theorem mem_rem {l : List Ev} {out : List Nat} {i : Nat} : i ∈ rem l out ↔ i < l.length ∧ i ∉ out := by simp [rem]
theorem rem_nil (l : List Ev) : rem l [] = List.range l.length := List.filter_eq_self.2 (by simp)
theorem rem_sorted (l : List Ev) (out : List Nat) : (rem l out).Pairwise (· < ·) := List.Pairwise.filter _ List.pairwise_lt_range
theorem range_split {n j : Nat} (h : j < n) : ∃ r, List.range n = List.range j ++ j :: r ∧ ∀ i ∈ r, j < i := by
  obtain ⟨d, rfl⟩ : ∃ d, n = j + (d + 1) := ⟨n - j - 1, by omega⟩
  refine ⟨((List.range d).map Nat.succ).map (j + ·), ?_, fun i hi => ?_⟩
  · rw [List.range_add, List.range_succ_eq_map]
    simp
  · simp only [List.map_map, List.mem_map, List.mem_range, Function.comp] at hi
    obtain ⟨a, _, rfl⟩ := hi
    omega
theorem rem_split {l : List Ev} {out : List Nat} {j : Nat} (h : Rdy l out j) : ∃ u v, rem l out = u ++ j :: v ∧ rem l (out ++ [j]) = u ++ v ∧ ∀ i ∈ u, i < j ∧ i ∉ out := by
  obtain ⟨h1, h2, _⟩ := h
  obtain ⟨r, hr, hgt⟩ := range_split h1
  refine ⟨(List.range j).filter fun i => decide (i ∉ out), r.filter fun i => decide (i ∉ out), ?_, ?_, fun i hi => ?_⟩
  · unfold rem
    rw [hr, List.filter_append, List.filter_cons, if_pos (by simpa using h2)]
  · unfold rem
    rw [hr, List.filter_append, List.filter_cons, if_neg (by simp)]
    congr 1
    · refine List.filter_congr fun i hi => ?_
      have : i ≠ j := by have := List.mem_range.1 hi; omega
      simp [this]
    · refine List.filter_congr fun i hi => ?_
      have : i ≠ j := by have := hgt i hi; omega
      simp [this]
  · have := List.mem_filter.1 hi
    exact ⟨List.mem_range.1 this.1, by simpa using this.2⟩
theorem Dn.rem_len {l : List Ev} {out : List Nat} (h : Dn l out) : (rem l out).length + out.length = l.length := by
  induction h with
  | nil => simp [rem_nil]
  | @snoc out j _ hr ih =>
    obtain ⟨u, v, h1, h2, _⟩ := rem_split hr
    rw [h1] at ih
    rw [h2]
    simp only [List.length_append, List.length_cons, List.length_nil] at ih ⊢
    omega
theorem Dn.length_le {l : List Ev} {out : List Nat} (h : Dn l out) : out.length ≤ l.length := by have := h.rem_len; omega
theorem Dn.full {l : List Ev} {out : List Nat} (h : Dn l out) (hl : out.length = l.length) : rem l out = [] := List.eq_nil_of_length_eq_zero (by have := h.rem_len; omega)
theorem map_ev (l : List Ev) : (List.range l.length).map (ev l) = l := by
  apply List.ext_getElem
  · simp
  · intro i h1 h2
    simp [ev, h2]
theorem dn_free {l : List Ev} {out : List Nat} {j : Nat} (h : Rdy l out j) {u : List Nat} (hu : ∀ i ∈ u, i < j ∧ i ∉ out) : Free (u.map (ev l)) (ev l j) := fun y hy => by
  obtain ⟨i, hi, rfl⟩ := List.mem_map.1 hy
  obtain ⟨h1, h2⟩ := hu i hi
  cases hd : dpd (ev l i) (ev l j) with
  | false => rfl
  | true => exact absurd (h.2.2 i ((hb_iff l i j).2 ⟨h1, .inl hd⟩)) h2
theorem dn_tq {l : List Ev} {out : List Nat} (h : Dn l out) : Tq l (out.map (ev l) ++ (rem l out).map (ev l)) := by
  induction h with
  | nil =>
    have : rem l [] = List.range l.length := rem_nil l
    rw [this, map_ev]
    exact .refl
  | @snoc out j _ hr ih =>
    obtain ⟨u, v, h1, h2, h3⟩ := rem_split hr
    rw [h1] at ih
    rw [h2]
    refine ih.trans ?_
    have := pull _ (out.map (ev l)) (u.map (ev l)) (v.map (ev l)) (ev l j) rfl (dn_free hr h3)
    simpa using this
theorem dn_full {l : List Ev} {out : List Nat} (h : Dn l out) (hl : out.length = l.length) : Tq l (out.map (ev l)) := by
  have := dn_tq h
  rw [h.full hl] at this
  simpa using this
theorem snoc_inj {α : Type} {a b : List α} {x y : α} (h : a ++ [x] = b ++ [y]) : a = b ∧ x = y := by
  have := List.append_inj' h rfl
  exact ⟨this.1, by simpa using this.2⟩
theorem gr_last {l : List Ev} {o out : List Nat} {j : Nat} (h : Gr l o) (e : o = out ++ [j]) : Gr l out ∧ Rdy l out j ∧ ∀ k, Rdy l out k → (ev l j).t ≤ (ev l k).t := by
  cases h with
  | nil => simp at e
  | snoc h1 h2 h3 =>
    obtain ⟨rfl, rfl⟩ := snoc_inj e
    exact ⟨h1, h2, h3⟩
theorem gr_pre {l : List Ev} {out : List Nat} : ∀ (n : Nat) (tail : List Nat), tail.length = n → Gr l (out ++ tail) → Gr l out
  | 0, tail, hn, h => by obtain rfl := List.eq_nil_of_length_eq_zero hn; simpa using h
  | n + 1, tail, hn, h => by
    have hne : tail ≠ [] := fun e => by rw [e] at hn; simp at hn
    obtain ⟨t, y, rfl⟩ : ∃ u1 y, tail = u1 ++ [y] := ⟨tail.dropLast, tail.getLast hne, (List.dropLast_concat_getLast hne).symm⟩
    exact gr_pre n t (by simpa using hn) (gr_last h (List.append_assoc _ _ _).symm).1
theorem rdy_of_free {l : List Ev} {out u v : List Nat} {k : Nat} (hd : Dn l out) (hr : rem l out = u ++ k :: v) (hf : Free (u.map (ev l)) (ev l k)) : Rdy l out k := by
  have hk := mem_rem.1 (show k ∈ rem l out by rw [hr]; simp)
  have hs := rem_sorted l out
  rw [hr] at hs
  have hin : ∀ i, i < k → i ∉ out → i ∈ u := fun i hi ho => by
    have : i ∈ rem l out := mem_rem.2 ⟨by omega, ho⟩
    rw [hr] at this
    rcases List.mem_append.1 this with h | h
    · exact h
    · rcases List.mem_cons.1 h with rfl | h
      · omega
      · have := (List.pairwise_cons.1 (List.pairwise_append.1 hs).2.1).1 i h
        omega
  refine ⟨hk.1, hk.2, fun i hi => Classical.byContradiction fun ho => ?_⟩
  obtain ⟨h1, h2 | ⟨m, h2, h3, h4, h5⟩⟩ := (hb_iff l i k).1 hi
  · have := hf (ev l i) (List.mem_map_of_mem (hin i h1 ho))
    rw [h2] at this; cases this
  · by_cases hm : m ∈ out
    · exact ho (hd.down m hm i h4)
    · have := hf (ev l m) (List.mem_map_of_mem (hin m h3 hm))
      rw [h5] at this; cases this
theorem gr_lf_at {l : List Ev} : ∀ (tail out : List Nat), Gr l (out ++ tail) → (out ++ tail).length = l.length → LF ((rem l out).map (ev l)) (tail.map (ev l))
  | [], out, h, hl => by
    rw [List.append_nil] at h hl
    rw [h.dn.full hl]
    exact .nil
  | j :: tail, out, h, hl => by
    have h' : Gr l ((out ++ [j]) ++ tail) := by simpa using h
    obtain ⟨h1, h2, h3⟩ := gr_last (gr_pre _ tail rfl h') rfl
    obtain ⟨u, v, e1, e2, e3⟩ := rem_split h2
    have ih := gr_lf_at tail (out ++ [j]) h' (by simpa using hl)
    rw [e2, List.map_append] at ih
    rw [e1]
    refine .cons (u := u.map (ev l)) (v := v.map (ev l)) ⟨by simp, dn_free h2 e3⟩ (fun u' x' v' hs => ?_) ih
    obtain ⟨hs1, hs2⟩ := hs
    rw [← e1] at hs1
    obtain ⟨u0, r0, e4, rfl, e5⟩ := List.map_eq_append_iff.1 hs1
    obtain ⟨k, v0, rfl, rfl, rfl⟩ := List.map_eq_cons_iff.1 e5
    exact h3 k (rdy_of_free h1.dn e4 hs2)
/-- THE LEAST ORDER LEADS TO THE LEAST FORM. -/
theorem gr_lf {l : List Ev} {out : List Nat} (h : Gr l out) (hl : out.length = l.length) : LF l (out.map (ev l)) := by
  have := gr_lf_at out [] (by simpa using h) (by simpa using hl)
  have e : rem l [] = List.range l.length := rem_nil l
  rw [e, map_ev] at this
  exact this
theorem hb_same {l : List Ev} {i j : Nat} (h : i < j) (ht : (ev l i).t = (ev l j).t) : hb l i j = true := (hb_iff l i j).2 ⟨h, .inl (dpd_same ht)⟩
theorem rdy_thread {l : List Ev} {out : List Nat} {j k : Nat} (hj : Rdy l out j) (hk : Rdy l out k) (ht : (ev l j).t = (ev l k).t) : j = k := by
  rcases Nat.lt_trichotomy j k with h | h | h
  · exact absurd (hk.2.2 j (hb_same h ht)) hj.2.1
  · exact h
  · exact absurd (hj.2.2 k (hb_same h ht.symm)) hk.2.1
theorem gr_det {l : List Ev} {o : List Nat} (h : Gr l o) : ∀ {o' : List Nat}, Gr l o' → o.length = o'.length → o = o' := by
  induction h with
  | nil => intro o' h' hl; exact (List.eq_nil_of_length_eq_zero hl.symm).symm
  | @snoc out j h1 h2 h3 ih =>
    intro o' h' hl
    cases h' with
    | nil => simp at hl
    | @snoc out' j' h1' h2' h3' =>
      obtain rfl := ih h1' (by simpa using hl)
      rw [rdy_thread h2 h2' (Int.le_antisymm (h3 _ h2') (h3' _ h2))]
theorem rdy_some {l : List Ev} {out : List Nat} (h : Dn l out) (hl : out.length < l.length) : ∃ j, Rdy l out j := by
  have hn := h.rem_len
  match hr : rem l out with
  | [] => rw [hr] at hn; simp at hn; omega
  | k :: v =>
    have hk := mem_rem.1 (show k ∈ rem l out by rw [hr]; simp)
    have hs := rem_sorted l out
    rw [hr] at hs
    refine ⟨k, hk.1, hk.2, fun i hi => Classical.byContradiction fun ho => ?_⟩
    have hlt := hb_lt hi
    have : i ∈ rem l out := mem_rem.2 ⟨by omega, ho⟩
    rw [hr] at this
    rcases List.mem_cons.1 this with rfl | h
    · omega
    · have := (List.pairwise_cons.1 hs).1 i h
      omega
theorem Dn.mem_all {l : List Ev} {out : List Nat} (h : Dn l out) (hl : out.length = l.length) (i : Nat) (hi : i < l.length) : i ∈ out := Classical.byContradiction fun ho => by
  have : i ∈ rem l out := mem_rem.2 ⟨hi, ho⟩
  rw [h.full hl] at this
  cases this
end Go.Proofs.Ytaalinhkikmfaaa
