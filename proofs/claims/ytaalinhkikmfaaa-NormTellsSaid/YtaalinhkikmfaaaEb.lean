/- norm.Least: what its walk uses. -/
import Derived.Test.YtaalinhkikmfaaaEa
import Derived.Test.YtaalinhkikmfaaaE9
import Derived.Test.YtaalinhkikmfaaaCq
set_option linter.unusedSimpArgs false
set_option linter.unusedVariables false
namespace Go.Proofs.Ytaalinhkikmfaaa
open Go.RowKit

theorem pigeon : ∀ (m n : Nat) (a : Nat → Nat), InjP a n → (∀ i, i < n → a i < m) → n ≤ m
  | 0, 0, _, _, _ => Nat.le_refl _
  | 0, n + 1, a, _, h => by have := h 0 (by omega); omega
  | m + 1, 0, _, _, _ => by omega
  | m + 1, n + 1, a, hi, h => by
    by_cases hex : ∃ i, i < n + 1 ∧ a i = m
    · obtain ⟨i, h1, h2⟩ := hex
      have hs := inj_swp (i := i) (j := n) h1 (by omega) hi
      have := pigeon m n (swp a i n) (inj_less hs (by omega)) fun k hk => by
        have h3 : swp a i n k ≠ m := fun e => by
          have : swp a i n k = swp a i n n := by rw [swp_j, h2]; exact e
          have := hs k n (by omega) (by omega) this
          omega
        have h4 : swp a i n k < m + 1 := by
          rw [swp_at]
          exact h _ (by split <;> (try split) <;> omega)
        omega
      omega
    · have := pigeon m (n + 1) a hi fun k hk => by
        have h1 := h k hk
        have : a k ≠ m := fun e => hex ⟨k, hk, e⟩
        omega
      omega
/-- the counters, t of those behind i gone through. -/
def lcn (l : List Ev) (o : List Nat) (i t k : Nat) : Nat := lf l o k - (if k ∈ (futL l i).take t then 1 else 0)
theorem fut_nodup (l : List Ev) (i : Nat) : (futL l i).Nodup := List.Pairwise.filter _ List.nodup_range
theorem fut_hb {l : List Ev} {i k : Nat} (h : k ∈ futL l i) : k < l.length ∧ hb l i k = true := by
  have := List.mem_filter.1 h
  exact ⟨List.mem_range.1 this.1, this.2⟩
theorem take_mem_lt {α : Type} {l : List α} {t : Nat} {k : α} (hn : l.Nodup) (ht : t < l.length) (e : l[t] = k) : k ∉ l.take t := fun h => by
  have hn' : (l.take t ++ l[t] :: l.drop (t + 1)).Nodup := by rw [List.getElem_cons_drop, List.take_append_drop]; exact hn
  have := (List.nodup_append.1 hn').2.2 k h l[t] List.mem_cons_self
  exact this e.symm
theorem take_succ_mem {α : Type} {l : List α} {t : Nat} (ht : t < l.length) (x : α) : x ∈ l.take (t + 1) ↔ x ∈ l.take t ∨ x = l[t] := by
  rw [List.take_add_one, List.getElem?_eq_getElem ht]
  simp only [List.mem_append, Option.toList, List.mem_singleton]
theorem lcn_zero (l : List Ev) (o : List Nat) (i k : Nat) : lcn l o i 0 k = lf l o k := by simp [lcn]
theorem lcn_at {l : List Ev} {o : List Nat} {i t : Nat} (hi : i ∉ o) (ht : t < (futL l i).length) : lcn l o i t (futL l i)[t] = lf l (o ++ [i]) (futL l i)[t] + 1 ∧ lcn l o i (t + 1) (futL l i)[t] = lf l (o ++ [i]) (futL l i)[t] := by
  have h1 := lf_step (l := l) (k := (futL l i)[t]) hi
  rw [(fut_hb (List.getElem_mem ht)).2, if_pos rfl] at h1
  unfold lcn
  rw [if_neg (take_mem_lt (fut_nodup l i) ht rfl), if_pos ((take_succ_mem ht _).2 (.inr rfl))]
  omega
theorem lcn_ne {l : List Ev} {o : List Nat} {i t k : Nat} (ht : t < (futL l i).length) (hk : k ≠ (futL l i)[t]) : lcn l o i (t + 1) k = lcn l o i t k := by
  unfold lcn
  have : (k ∈ (futL l i).take (t + 1)) ↔ k ∈ (futL l i).take t := by rw [take_succ_mem ht]; simp [hk]
  by_cases h : k ∈ (futL l i).take t
  · rw [if_pos h, if_pos (this.2 h)]
  · rw [if_neg h, if_neg (fun h2 => h (this.1 h2))]
theorem lcn_end {l : List Ev} {o : List Nat} {i k : Nat} (hi : i ∉ o) (hk : k < l.length) : lcn l o i (futL l i).length k = lf l (o ++ [i]) k := by
  unfold lcn
  rw [List.take_length]
  have h1 := lf_step (l := l) (k := k) hi
  cases h : hb l i k with
  | true => rw [h, if_pos rfl] at h1; rw [if_pos (show k ∈ futL l i from List.mem_filter.2 ⟨List.mem_range.2 hk, h⟩)]; omega
  | false =>
    rw [h] at h1
    rw [if_neg (fun h2 => by have := (fut_hb h2).2; rw [h] at this; cases this)]
    simp at h1
    omega
/-- who is in the heap, t of those behind i gone through. -/
def HasT (l : List Ev) (o : List Nat) (i t x : Nat) : Prop := (Rdy l o x ∧ x ≠ i) ∨ (x ∈ (futL l i).take t ∧ lf l (o ++ [i]) x = 0)
theorem hasT_end {l : List Ev} {o : List Nat} {i : Nat} (hd : Dn l o) (hi : Rdy l o i) (x : Nat) : HasT l o i (futL l i).length x ↔ Rdy l (o ++ [i]) x := by
  unfold HasT
  rw [List.take_length, rdy_step hd hi]
theorem hasT_new {l : List Ev} {o : List Nat} {i t : Nat} (hi : Rdy l o i) (ht : t < (futL l i).length) : ¬ HasT l o i t (futL l i)[t] := by
  rintro (⟨h1, _⟩ | ⟨h1, _⟩)
  · exact hi.2.1 (h1.2.2 i (fut_hb (List.getElem_mem ht)).2)
  · exact take_mem_lt (fut_nodup l i) ht rfl h1
theorem hasT_step {l : List Ev} {o : List Nat} {i t : Nat} (ht : t < (futL l i).length) (x : Nat) : HasT l o i (t + 1) x ↔ HasT l o i t x ∨ (x = (futL l i)[t] ∧ lf l (o ++ [i]) x = 0) := by
  unfold HasT
  rw [take_succ_mem ht]
  constructor
  · rintro (h | ⟨h1 | h1, h2⟩)
    · exact .inl (.inl h)
    · exact .inl (.inr ⟨h1, h2⟩)
    · exact .inr ⟨h1, h2⟩
  · rintro ((h | ⟨h1, h2⟩) | ⟨h1, h2⟩)
    · exact .inl h
    · exact .inr ⟨.inl h1, h2⟩
    · exact .inr ⟨.inr h1, h2⟩
theorem hasT_lt {l : List Ev} {o : List Nat} {i t x : Nat} (h : HasT l o i t x) : x < l.length := by
  rcases h with h | h
  · exact h.1.1
  · exact (fut_hb (List.mem_of_mem_take h.1)).1
/-- counters in memory. -/
def LCt (w : World) (L m : Nat) (lc : Nat → Nat) : Prop := ∃ cs, w.heap[L]? = some (.cells cs 3 (0, 0)) ∧ cs.size = m ∧ ∀ k, k < m → cs[k]? = some (.int .i64 (lc k : Nat))
theorem LCt.at {w w' : World} {L m : Nat} {lc : Nat → Nat} (h : LCt w L m lc) (hb : w'.heap[L]? = w.heap[L]?) : LCt w' L m lc := by
  obtain ⟨cs, h1, h2⟩ := h
  exact ⟨cs, hb.trans h1, h2⟩
theorem LCt.congr {w : World} {L m : Nat} {lc lc' : Nat → Nat} (h : LCt w L m lc) (hf : ∀ k, k < m → lc k = lc' k) : LCt w L m lc' := by
  obtain ⟨cs, h1, h2, h3⟩ := h
  exact ⟨cs, h1, h2, fun k hk => by rw [← hf k hk]; exact h3 k hk⟩
theorem LCt.cell {w : World} {L m : Nat} {lc : Nat → Nat} (h : LCt w L m lc) {k : Nat} (hk : k < m) : w.cell? ⟨L, k, none⟩ = some (.int .i64 (lc k : Nat)) ∧ w.frozen? ⟨L, k, none⟩ = false := by
  obtain ⟨cs, h1, _, h3⟩ := h
  exact ⟨by rw [cell_blk h1]; exact h3 k hk, free_blk h1 k⟩
theorem LCt.set {w : World} {L m : Nat} {lc : Nat → Nat} (h : LCt w L m lc) (k x : Nat) : LCt (w.setCell ⟨L, k, none⟩ (.int .i64 (x : Nat))) L m (upd lc k x) := by
  obtain ⟨cs, h1, h2, h3⟩ := h
  refine ⟨_, set_blk h1 k _, by simpa using h2, fun i hi => ?_⟩
  by_cases e : i = k
  · subst e
    rw [upd_at, Array.getElem?_setIfInBounds_self]
    simp [h2, hi]
  · rw [upd_ne _ _ e, Array.getElem?_setIfInBounds_ne (Ne.symm e)]
    exact h3 i hi
theorem RQ.setX {X : Nat → Prop} {w : World} {B g n L : Nat} {E : Value} {a : Nat → Nat} (h : RQ X w B g E n a) (hL : X L) (i : Nat) (x : Value) : RQ X (w.setCell ⟨L, i, none⟩ x) B g E n a := by
  obtain ⟨vat, h1, h2, h3⟩ := h
  have hg : w.grownBy (w.setCell ⟨L, i, none⟩ x) (some L) := grown_setCell (World.grownBy.refl w (some L)) (p := ⟨L, i, none⟩) rfl x
  obtain ⟨b1, b2, b3⟩ := h3 L hL
  exact ⟨vat, (hg.block g (lt_blk h1) (by intro e; injection e with e; exact b2 e.symm)).trans h1, h2.kept hg (by
    cases hv : vat.ownBlock with
    | none => exact .inl rfl
    | some b => exact .inr (by rw [← hv]; exact b3)), fun k hk => ⟨Nat.lt_of_lt_of_le (h3 k hk).1 hg.size, (h3 k hk).2⟩⟩
/-- what is beside the heap: the blocks up to L, and one's own row. -/
def XL (L : Nat) (v : Value) (k : Nat) : Prop := k ≤ L ∨ v.ownBlock = some k
/-- the row has grown. -/
theorem RQ.row {w w' : World} {B g n L : Nat} {E v v' : Value} {a : Nat → Nat} (h : RQ (XL L v) w B g E n a) (hg : w.grownBy w' v.ownBlock) (ho : v'.ownBlock = v.ownBlock ∨ ∃ b, v'.ownBlock = some b ∧ w.heap.size ≤ b ∧ b < w'.heap.size) : RQ (XL L v') w' B g E n a := by
  obtain ⟨vat, h1, h2, h3⟩ := h
  have hvg : v.ownBlock ≠ some g := fun e => (h3 g (.inr e)).2.1 rfl
  refine ⟨vat, (hg.block g (lt_blk h1) (fun e => hvg e.symm)).trans h1, h2.kept hg ?_, fun k hk => ?_⟩
  · cases hv : vat.ownBlock with
    | none => exact .inl rfl
    | some b => exact .inr fun e => (h3 b (.inr e.symm)).2.2 hv
  · rcases hk with hk | hk
    · have := h3 k (.inl hk)
      exact ⟨Nat.lt_of_lt_of_le this.1 hg.size, this.2⟩
    · rcases ho with e | ⟨b, e, hb1, hb2⟩
      · have := h3 k (.inr (e.symm.trans hk))
        exact ⟨Nat.lt_of_lt_of_le this.1 hg.size, this.2⟩
      · rw [e] at hk
        injection hk with hk
        subst hk
        have hgl := lt_blk h1
        refine ⟨hb2, by omega, fun e2 => ?_⟩
        have := (h2.lt _ e2).2
        omega
theorem QX.bel {X : Nat → Prop} {B : Nat} {w0 w w' : World} (h : QX X w w') (hb : Below B w0 w) (hX : ∀ k, k < B → X k) : Below B w0 w' :=
  ⟨h.os.trans hb.os, h.tape.trans hb.tape, h.output.trans hb.output, Nat.le_trans hb.size h.size, fun k hk => (h.block k (hX k hk)).trans (hb.block k hk)⟩
end Go.Proofs.Ytaalinhkikmfaaa
