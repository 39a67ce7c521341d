/- events as cells; new blocks in drawn regions. -/
import Derived.Test.YtaalinhkikmfaaaMg10
import Derived.Test.YtaalinhkikmfaaaAs
set_option linter.unusedSimpArgs false
set_option linter.unusedVariables false
namespace Go.Proofs.Ytaalinhkikmfaaa
open Go.RowKit

theorem ES3 : ElS Try.prog 22 50 (.agg #[.int .i64 0, .int .i64 0, .int .i64 0]) 3 24 := ⟨Try.underlying22, by kernel_rfl, rfl, by decide⟩
def evc (e : Ev) (j : Nat) : Value := if j = 0 then .int .i64 e.t else if j = 1 then .int .i64 e.k else .int .i64 e.o
def evcells (l : List Ev) : List Value := (List.range (l.length * 3)).map fun j => evc (ev l (j / 3)) (j % 3)
theorem evcells_length (l : List Ev) : (evcells l).length = l.length * 3 := by simp [evcells]
theorem evcells_get (l : List Ev) (j : Nat) (h : j < l.length * 3) : (evcells l)[j]? = some (evc (ev l (j / 3)) (j % 3)) := by simp [evcells, h]
theorem evcells_app (l : List Ev) (e : Ev) : evcells (l ++ [e]) = evcells l ++ [.int .i64 e.t, .int .i64 e.k, .int .i64 e.o] := by
  apply List.ext_getElem?
  intro j
  by_cases h : j < l.length * 3
  · rw [evcells_get _ _ (by simp; omega), List.getElem?_append_left (by rw [evcells_length]; exact h), evcells_get _ _ h]
    have : ev (l ++ [e]) (j / 3) = ev l (j / 3) := by unfold ev; rw [List.getD_eq_getElem?_getD, List.getElem?_append_left (by omega), ← List.getD_eq_getElem?_getD]
    rw [this]
  · rw [List.getElem?_append_right (by rw [evcells_length]; omega), evcells_length]
    by_cases h2 : j < l.length * 3 + 3
    · rw [evcells_get _ _ (by simp; omega)]
      have hd : j / 3 = l.length := by omega
      have he : ev (l ++ [e]) (j / 3) = e := by unfold ev; rw [hd]; simp
      rw [he]
      have : j - l.length * 3 = 0 ∨ j - l.length * 3 = 1 ∨ j - l.length * 3 = 2 := by omega
      rcases this with h3 | h3 | h3
      · rw [h3, show j % 3 = 0 by omega]; rfl
      · rw [h3, show j % 3 = 1 by omega]; rfl
      · rw [h3, show j % 3 = 2 by omega]; rfl
    · rw [List.getElem?_eq_none (by rw [evcells_length]; simp; omega), List.getElem?_eq_none (by simp; omega)]
theorem evcells_one (l : List Ev) : ∀ u ∈ evcells l, u.oneCell' = true := by
  intro u hu
  simp only [evcells, List.mem_map] at hu
  obtain ⟨j, _, rfl⟩ := hu
  unfold evc; split <;> (try split) <;> rfl
theorem Evs.rd {w : World} {B : Nat} {A : Option Addr} {l : List Ev} (h : Evs w B A l) : Rd w B A (evcells l) := fun j u hu => by
  have hj : j < l.length * 3 := by
    have := (List.getElem?_eq_some_iff.1 hu).1
    rwa [evcells_length] at this
  rw [evcells_get _ _ hj] at hu
  injection hu with hu
  obtain ⟨b, off, e, hb, h1, h2, h3⟩ := h (j / 3) (by omega)
  refine ⟨b, off, e, hb, ?_⟩
  have : j % 3 = 0 ∨ j % 3 = 1 ∨ j % 3 = 2 := by omega
  rcases this with h4 | h4 | h4
  · rw [h4] at hu; rw [show off + j = off + j / 3 * 3 by omega, h1, ← hu]; rfl
  · rw [h4] at hu; rw [show off + j = off + j / 3 * 3 + 1 by omega, h2, ← hu]; rfl
  · rw [h4] at hu; rw [show off + j = off + j / 3 * 3 + 2 by omega, h3, ← hu]; rfl
theorem Evs.of_rd {w : World} {B : Nat} {A : Option Addr} {l : List Ev} (h : Rd w B A (evcells l)) : Evs w B A l := fun i hi => by
  obtain ⟨b, off, e, hb, h1⟩ := h (i * 3) _ (evcells_get l (i * 3) (by omega))
  obtain ⟨_, _, e2, _, h2⟩ := h (i * 3 + 1) _ (evcells_get l (i * 3 + 1) (by omega))
  obtain ⟨_, _, e3, _, h3⟩ := h (i * 3 + 2) _ (evcells_get l (i * 3 + 2) (by omega))
  rw [e] at e2 e3
  injection e2 with e2; injection e2 with a1 a2; subst a1 a2
  injection e3 with e3; injection e3 with a1 a2; subst a1 a2
  refine ⟨b, off, e, hb, ?_, ?_, ?_⟩
  · rw [h1, show i * 3 / 3 = i by omega, show i * 3 % 3 = 0 by omega]; rfl
  · rw [Nat.add_assoc, h2, show (i * 3 + 1) / 3 = i by omega, show (i * 3 + 1) % 3 = 1 by omega]; rfl
  · rw [Nat.add_assoc, h3, show (i * 3 + 2) / 3 = i by omega, show (i * 3 + 2) % 3 = 2 by omega]; rfl
/-- a slice of its own block, made at once. -/
def NewR (B : Nat) (T : TypeId) (cs : Array Value) (n : Nat) (v : Value) (w : World) : Prop := ∃ g, v = .slice (some ⟨g, 0, none⟩) n n ∧ B ≤ g ∧ w.heap[g]? = some (.cells cs T (0, 0))
theorem NewR.keepsS (B : Nat) (T : TypeId) (cs : Array Value) (n : Nat) : KeepsS (NewR B T cs n) := fun v w w' ⟨g, h1, h2, h3⟩ hb => ⟨g, h1, h2, (hb.block g (lt_blk h3)).trans h3⟩
def OwnRS (B : Nat) (e : TypeId) (sz n : Nat) (xs : List Value) (v : Value) (w : World) : Prop := w.ownsRow B e sz v n xs
theorem OwnRS.keepsS (B : Nat) (e : TypeId) (sz n : Nat) (xs : List Value) : KeepsS (OwnRS B e sz n xs) := fun v w w' h hb => own_belowS h hb
theorem newR_alloc {B n : Nat} {T : TypeId} {cs : Array Value} {w0 W : World} (hW : Below w0.heap.size w0 W) (hB : B ≤ w0.heap.size) : StayS w0.heap.size W (W.alloc (.cells cs T)) ∧ ttHolds (.inr (NewR B T cs n)) (.slice (some ⟨W.heap.size, 0, none⟩) n n) (W.alloc (.cells cs T)) :=
  ⟨StayS.alloc hW _, _, rfl, Nat.le_trans hB hW.size, heap_alloc_new _ _⟩
theorem wrongE_snoc {l : List Ev} {e : Ev} {n : Int} (h : wrongE (l ++ [e]) n = 0) : l.length < 1024 ∧ 1 ≤ n ∧ n ≤ 16 ∧ 0 ≤ e.t ∧ e.t < n := by
  obtain ⟨h1, h2, h3, h4⟩ := wrong_ok h
  have h5 := good_at h4 (i := l.length) (by simp)
  have : ev (l ++ [e]) l.length = e := by simp [ev, List.getD_eq_getElem?_getD]
  rw [this] at h5
  simp at h3
  exact ⟨by omega, h1, h2, h5.1, h5.2⟩
def NextR (n : Nat) (w : World) (R : Nat → Nat) (r : Ending) (w' : World) : Prop :=
  ∃ g cur, r = .returned (.tuple #[.slice (some ⟨g, 0, none⟩) n n, .int .i64 0]) ∧ w.heap.size ≤ g ∧ w'.heap[g]? = some (.cells cur 3 (0, 0)) ∧ (∀ t, t < n → cur[t]? = some (.int .i64 (R t : Nat))) ∧ Below w.heap.size w w'
theorem own_past {w : World} {base sz n : Nat} {e : TypeId} {v : Value} {xs : List Value} (h : w.ownsRow base e sz v n xs) : ∀ k, v.ownBlock = some k → base ≤ k := fun k hk => (h.lt k hk).1
theorem Clk.cks {w : World} {B m n g : Nat} {A : Option Addr} {c : Nat → Nat → Nat} (h : Clk w B A m n c) (hg : B ≤ g) : Cks w A m n c g 0 := fun i hi => by
  obtain ⟨b, o, bi, oi, ci, e, h1, h2, h3, h4⟩ := h i hi
  exact ⟨b, o, bi, oi, ci, e, by omega, h3, .inl (by omega), h4⟩
end Go.Proofs.Ytaalinhkikmfaaa
