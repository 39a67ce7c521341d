/- rows of flags, and the closures that rows of them are. -/
import Derived.Test.YtkcpoebepiipoaaGp
import Derived.Test.YtkcpoebepiipoaaCe
set_option linter.unusedSimpArgs false
set_option linter.unusedVariables false
namespace Go.Proofs.Ytkcpoebepiipoaa
open Go.RowKit

theorem EB : El Try.prog 53 4 (.bool false) 1 := ⟨Try.underlying53, by kernel_rfl, rfl⟩
theorem EBB : El Try.prog 49 53 (.slice none 0 0) 24 := ⟨Try.underlying49, by kernel_rfl, rfl⟩
/-- block g is a row of n flags: all else is as it was. -/
structure RowQ (w wr : World) (g n : Nat) (S : Nat → Bool) : Prop where
  grown : w.grownBy wr (some g)
  row : ∃ cur : Array Value, wr.heap[g]? = some (.cells cur 4 (0, 0)) ∧ cur.size = n ∧ ∀ t, t < n → cur[t]? = some (.bool (S t))
theorem RowQ.ext {w wr w' : World} {g n : Nat} {S : Nat → Bool} (h : RowQ w wr g n S) (hb : Below wr.heap.size wr w') : RowQ w w' g n S := by
  obtain ⟨cur, h1, h2⟩ := h.row
  exact ⟨grown_ext h.grown hb, cur, (hb.block g (lt_blk h1)).trans h1, h2⟩
theorem RowQ.congr {w wr : World} {g n : Nat} {S S' : Nat → Bool} (h : RowQ w wr g n S) (hS : ∀ t, t < n → S t = S' t) : RowQ w wr g n S' := by
  obtain ⟨cur, h1, h2, h3⟩ := h.row
  exact ⟨h.grown, cur, h1, h2, fun t ht => by rw [← hS t ht]; exact h3 t ht⟩
theorem RowQ.cell {w wr : World} {g n t : Nat} {S : Nat → Bool} (h : RowQ w wr g n S) (ht : t < n) : wr.cell? ⟨g, t, none⟩ = some (.bool (S t)) ∧ wr.frozen? ⟨g, t, none⟩ = false := by
  obtain ⟨cur, h1, h2, h3⟩ := h.row
  exact ⟨by rw [cell_blk h1]; exact h3 t ht, free_blk h1 _⟩
theorem RowQ.write {w wr : World} {g n t : Nat} {S : Nat → Bool} (z : Bool) (h : RowQ w wr g n S) (ht : t < n) : RowQ w (wr.setCell ⟨g, t, none⟩ (.bool z)) g n (fun s => if s = t then z else S s) := by
  obtain ⟨cur, h1, h2, h3⟩ := h.row
  refine ⟨grown_setCell h.grown rfl _, _, set_blk h1 _ _, by simp [h2], fun s hs => ?_⟩
  have hlt : s < cur.size := by omega
  by_cases e : s = t
  · subst e
    rw [Array.getElem?_setIfInBounds_self_of_lt hlt, if_pos rfl]
  · rw [Array.getElem?_setIfInBounds_ne (by omega), if_neg e]; exact h3 s hs
theorem RowQ.made (w : World) (n : Nat) : RowQ (w.alloc (.cells (Array.replicate n (.bool false)) 4)) (w.alloc (.cells (Array.replicate n (.bool false)) 4)) w.heap.size n (fun _ => false) :=
  ⟨World.grownBy.refl _ _, _, heap_alloc_new _ _, by simp, fun t ht => by simp [ht]⟩
def brow (g n : Nat) : Value := .slice (some ⟨g, 0, none⟩) n n
def bvs (γ ln : Nat → Nat) (m : Nat) : List Value := (List.range m).map fun j => brow (γ j) (ln j)
theorem bvs_succ (γ ln : Nat → Nat) (m : Nat) : bvs γ ln (m + 1) = bvs γ ln m ++ [brow (γ m) (ln m)] := by simp [bvs, List.range_succ]
theorem bvs_congr {γ γ' ln : Nat → Nat} {m : Nat} (h : ∀ j, j < m → γ j = γ' j) : bvs γ ln m = bvs γ' ln m := by
  unfold bvs
  apply List.map_congr_left
  intro j hj
  rw [h j (by simpa using hj)]
theorem bvs_get (γ ln : Nat → Nat) (m j : Nat) (h : j < m) : (bvs γ ln m)[j]? = some (brow (γ j) (ln j)) := by simp [bvs, h]
/-- a slice of rows of flags. -/
def BMat (w : World) (B : Nat) (v : Value) (m : Nat) (ln : Nat → Nat) (S : Nat → Nat → Bool) (γ : Nat → Nat) : Prop :=
  w.ownsRow B 53 1 v m (bvs γ ln m) ∧ ∀ j, j < m → B ≤ γ j ∧ ∃ cur : Array Value, w.heap[γ j]? = some (.cells cur 4 (0, 0)) ∧ cur.size = ln j ∧ ∀ t, t < ln j → cur[t]? = some (.bool (S j t))
theorem BMat.ext {w w' : World} {B m : Nat} {v : Value} {ln γ : Nat → Nat} {S : Nat → Nat → Bool} (h : BMat w B v m ln S γ) (hb : Below w.heap.size w w') : BMat w' B v m ln S γ :=
  ⟨own_below h.1 hb, fun j hj => by
    obtain ⟨h1, cur, h2, h3⟩ := h.2 j hj
    exact ⟨h1, cur, (hb.block _ (lt_blk h2)).trans h2, h3⟩⟩
theorem BMat.turned {w w' : World} {B m g : Nat} {v : Value} {ln γ : Nat → Nat} {S : Nat → Nat → Bool} {cur : Array Value} (h : BMat w B v m ln S γ) (hg : w.heap[g]? = some (.cells cur 4 (0, 0))) (hne : ∀ j, j < m → γ j ≠ g) (hb : w.grownBy w' (some g)) : BMat w' B v m ln S γ :=
  ⟨own_kept_g h.1 hg (by decide) hb, fun j hj => by
    obtain ⟨h1, cur, h2, h3⟩ := h.2 j hj
    exact ⟨h1, cur, (hb.block _ (lt_blk h2) (fun e => hne j hj (by injection e))).trans h2, h3⟩⟩
theorem BMat.row {w : World} {B m j : Nat} {v : Value} {ln γ : Nat → Nat} {S : Nat → Nat → Bool} (h : BMat w B v m ln S γ) (hj : j < m) : ∃ b o c, v = .slice (some ⟨b, o, none⟩) m c ∧ w.cell? ⟨b, o + j, none⟩ = some (.slice (some ⟨γ j, 0, none⟩) (ln j) (ln j)) ∧ ∀ t, t < ln j → w.cell? ⟨γ j, t, none⟩ = some (.bool (S j t)) := by
  obtain ⟨A, c, rfl, hr, _, _⟩ := own_rd h.1
  obtain ⟨b, o, rfl, _, h1⟩ := hr j _ (bvs_get γ ln m j hj)
  obtain ⟨_, cur, h2, h3, h4⟩ := h.2 j hj
  exact ⟨b, o, c, rfl, h1, fun t ht => by rw [cell_blk h2]; exact h4 t ht⟩
theorem BMat.not_row {w : World} {B m : Nat} {v : Value} {ln γ : Nat → Nat} {S : Nat → Nat → Bool} {cur : Array Value} {g : Nat} (h : BMat w B v m ln S γ) (hg : w.heap[g]? = some (.cells cur 4 (0, 0))) : v.ownBlock ≠ some g := by
  rcases h.1.2 with ⟨rfl, _⟩ | ⟨g', cap, cur', rfl, _, hg', _⟩
  · intro e; cases e
  · intro e
    simp only [Value.ownBlock] at e
    injection e with e
    subst e
    rw [hg] at hg'
    injection hg' with h5
    injection h5 with _ h6
    revert h6; decide
theorem BMat.grown {w w' : World} {B m : Nat} {v : Value} {ln γ : Nat → Nat} {S : Nat → Nat → Bool} (h : BMat w B v m ln S γ) (hb : w.grownBy w' v.ownBlock) : ∀ j, j < m → B ≤ γ j ∧ ∃ cur : Array Value, w'.heap[γ j]? = some (.cells cur 4 (0, 0)) ∧ cur.size = ln j ∧ ∀ t, t < ln j → cur[t]? = some (.bool (S j t)) := fun j hj => by
  obtain ⟨h1, cur, h2, h3⟩ := h.2 j hj
  exact ⟨h1, cur, (hb.block _ (lt_blk h2) (fun e => h.not_row h2 e.symm)).trans h2, h3⟩
end Go.Proofs.Ytkcpoebepiipoaa
