/- the example of ch. 13, and that the law is awake. -/
import Derived.Test.YtaalinhkikmfaaaCo
set_option linter.unusedSimpArgs false
set_option linter.unusedVariables false
namespace Go.Proofs.Ytaalinhkikmfaaa
open Go.RowKit

def exL : List Ev := [⟨0, 2, 0⟩, ⟨1, 1, 0⟩, ⟨1, 0, 0⟩, ⟨0, 2, 1⟩, ⟨1, 1, 1⟩]
def exT (i t : Nat) : Nat := ([[1, 0], [1, 1], [1, 2], [2, 0], [2, 3]].getD i []).getD t 0
theorem ex_clk : ∀ i, i < 5 → ∀ t, t < 2 → clk exL i t = exT i t := by
  have h : ((List.range 5).all fun i => (List.range 2).all fun t => clk exL i t == exT i t) = true := by decide
  intro i hi t ht
  rw [List.all_eq_true] at h
  have h1 := h i (by simpa using hi)
  rw [List.all_eq_true] at h1
  exact eq_of_beq (h1 t (by simpa using ht))
theorem ex_wrong : wrongE exL 2 = 0 := by decide
/-- clocks that came out of Clocks. -/
theorem clk_of {w' : World} {v : Value} {l : List Ev} {B g n : Nat} {cur : Array Value} (ho : w'.ownsRow B 23 1 v l.length (rowVs g n l.length)) (hg : w'.heap[g]? = some (.cells cur 3 (0, 0))) (hc : ∀ i, i < l.length → ∀ t, t < n → cur[i * n + t]? = some (.int .i64 (clk l i t : Nat))) :
    ∃ A c, v = .slice A l.length c ∧ Clk w' w'.heap.size A l.length n (clk l) := by
  obtain ⟨A, c, rfl, hr, _, _⟩ := own_rd ho
  refine ⟨A, c, rfl, fun i hi => ?_⟩
  obtain ⟨b, o, e, hb, hc2⟩ := hr i _ (rowVs_get g n _ i hi)
  exact ⟨b, o, g, i * n, n, e, hb, lt_blk hg, hc2, fun t ht => by rw [cell_blk hg]; exact hc i hi t ht⟩
def ClkR (l : List Ev) (n : Nat) (w : World) (r : Ending) (w' : World) : Prop := ∃ A c, r = .returned (.tuple #[.slice A l.length c, .int .i64 0]) ∧ Clk w' w'.heap.size A l.length n (clk l) ∧ Below w.heap.size w w'
theorem clocks_at (l : List Ev) (m : Nat) (hm : m = l.length) (hl : m ≤ 4611686018427387904) (n : Nat) (hw : wrongE l n = 0) (A : Option Addr) (cap : Nat) (hcap : m ≤ cap) (B : Nat) (w : World) (hA : Evs w B A l) (hB : B ≤ w.heap.size) :
    Calls Try.prog 34 #[.slice A m cap, .int .i64 n] w fun r w' => ∃ A' c, r = .returned (.tuple #[.slice A' m c, .int .i64 0]) ∧ Clk w' w'.heap.size A' m n (clk l) ∧ Below w.heap.size w w' := by
  subst hm
  refine (clocks_any l hl n A cap hcap w (hA.more hB)).mono ?_
  rintro r w' ⟨hb, ⟨h, _⟩ | ⟨_, v, g, cur, rfl, h1, h2, h3, h4⟩⟩
  · exact absurd hw h
  · obtain ⟨A', c, rfl, h5⟩ := clk_of h1 h3 h4
    exact ⟨A', c, rfl, h5, hb⟩
def exW (w : World) : World := ((((((w.alloc (Obj.cells #[Value.int IntKind.i64 1, Value.int IntKind.i64 0] 3)).alloc
                      (Obj.cells #[Value.int IntKind.i64 1, Value.int IntKind.i64 1] 3)).alloc
                  (Obj.cells #[Value.int IntKind.i64 1, Value.int IntKind.i64 2] 3)).alloc
              (Obj.cells #[Value.int IntKind.i64 2, Value.int IntKind.i64 0] 3)).alloc
          (Obj.cells #[Value.int IntKind.i64 2, Value.int IntKind.i64 3] 3)).alloc
      (Obj.cells
        #[Value.slice (some { block := w.heap.size, off := 0 }) 2 2,
          Value.slice (some { block := w.heap.size + 1, off := 0 }) 2 2,
          Value.slice (some { block := w.heap.size + 1 + 1, off := 0 }) 2 2,
          Value.slice (some { block := w.heap.size + 1 + 1 + 1, off := 0 }) 2 2,
          Value.slice (some { block := w.heap.size + 1 + 1 + 1 + 1, off := 0 }) 2 2]
        23))
theorem ex_below (w : World) : Below w.heap.size w (exW w) := by
  unfold exW
  exact ((((((Below.refl _ _).alloc (Nat.le_refl _) _).alloc (by simp) _).alloc (by simp; omega) _).alloc (by simp; omega) _).alloc (by simp; omega) _).alloc (by simp; omega) _
theorem ex_size (w : World) : (exW w).heap.size = w.heap.size + 6 := by unfold exW; simp
theorem ex_lit (w : World) : Clk (exW w) (exW w).heap.size (some ⟨w.heap.size + 1 + 1 + 1 + 1 + 1, 0, none⟩) 5 2 exT := by
  have hs := ex_size w
  have b5 : (exW w).heap[w.heap.size + 1 + 1 + 1 + 1 + 1]? = some (.cells #[Value.slice (some { block := w.heap.size, off := 0 }) 2 2, Value.slice (some { block := w.heap.size + 1, off := 0 }) 2 2, Value.slice (some { block := w.heap.size + 1 + 1, off := 0 }) 2 2, Value.slice (some { block := w.heap.size + 1 + 1 + 1, off := 0 }) 2 2, Value.slice (some { block := w.heap.size + 1 + 1 + 1 + 1, off := 0 }) 2 2] 23 (0, 0)) := by unfold exW; simpa using heap_alloc_new (((((w.alloc (Obj.cells #[Value.int IntKind.i64 1, Value.int IntKind.i64 0] 3)).alloc (Obj.cells #[Value.int IntKind.i64 1, Value.int IntKind.i64 1] 3)).alloc (Obj.cells #[Value.int IntKind.i64 1, Value.int IntKind.i64 2] 3)).alloc (Obj.cells #[Value.int IntKind.i64 2, Value.int IntKind.i64 0] 3)).alloc (Obj.cells #[Value.int IntKind.i64 2, Value.int IntKind.i64 3] 3)) _
  have b0 : (exW w).heap[w.heap.size]? = some (.cells #[Value.int IntKind.i64 1, Value.int IntKind.i64 0] 3 (0, 0)) := by
    unfold exW
    rw [Below.heap_alloc _ _ _ (by simp <;> omega), Below.heap_alloc _ _ _ (by simp <;> omega), Below.heap_alloc _ _ _ (by simp <;> omega), Below.heap_alloc _ _ _ (by simp <;> omega), Below.heap_alloc _ _ _ (by simp)]
    exact heap_alloc_new _ _
  have b1 : (exW w).heap[w.heap.size + 1]? = some (.cells #[Value.int IntKind.i64 1, Value.int IntKind.i64 1] 3 (0, 0)) := by
    unfold exW
    rw [Below.heap_alloc _ _ _ (by simp <;> omega), Below.heap_alloc _ _ _ (by simp <;> omega), Below.heap_alloc _ _ _ (by simp <;> omega), Below.heap_alloc _ _ _ (by simp)]
    simpa using heap_alloc_new (w.alloc _) _
  have b2 : (exW w).heap[w.heap.size + 1 + 1]? = some (.cells #[Value.int IntKind.i64 1, Value.int IntKind.i64 2] 3 (0, 0)) := by
    unfold exW
    rw [Below.heap_alloc _ _ _ (by simp <;> omega), Below.heap_alloc _ _ _ (by simp <;> omega), Below.heap_alloc _ _ _ (by simp)]
    simpa using heap_alloc_new ((w.alloc _).alloc _) _
  have b3 : (exW w).heap[w.heap.size + 1 + 1 + 1]? = some (.cells #[Value.int IntKind.i64 2, Value.int IntKind.i64 0] 3 (0, 0)) := by
    unfold exW
    rw [Below.heap_alloc _ _ _ (by simp <;> omega), Below.heap_alloc _ _ _ (by simp)]
    simpa using heap_alloc_new (((w.alloc _).alloc _).alloc _) _
  have b4 : (exW w).heap[w.heap.size + 1 + 1 + 1 + 1]? = some (.cells #[Value.int IntKind.i64 2, Value.int IntKind.i64 3] 3 (0, 0)) := by
    unfold exW
    rw [Below.heap_alloc _ _ _ (by simp)]
    simpa using heap_alloc_new ((((w.alloc _).alloc _).alloc _).alloc _) _
  have tt : ∀ (b : Nat) (x y : Int), (exW w).heap[b]? = some (.cells #[.int .i64 x, .int .i64 y] 3 (0, 0)) → ∀ (f : Nat → Nat), (f 0 : Int) = x → (f 1 : Int) = y → ∀ t, t < 2 → (exW w).cell? ⟨b, 0 + t, none⟩ = some (.int .i64 (f t : Nat)) := by
    intro b x y h f h1 h2 t ht
    have : t = 0 ∨ t = 1 := by omega
    rw [cell_blk h]
    rcases this with rfl | rfl
    · rw [h1]; rfl
    · rw [h2]; rfl
  intro i hi
  have : i = 0 ∨ i = 1 ∨ i = 2 ∨ i = 3 ∨ i = 4 := by omega
  rcases this with rfl | rfl | rfl | rfl | rfl
  · exact ⟨_, 0, w.heap.size, 0, 2, rfl, by omega, by omega, by rw [cell_blk b5]; rfl, tt _ _ _ b0 _ rfl rfl⟩
  · exact ⟨_, 0, w.heap.size + 1, 0, 2, rfl, by omega, by omega, by rw [cell_blk b5]; rfl, tt _ _ _ b1 _ rfl rfl⟩
  · exact ⟨_, 0, w.heap.size + 1 + 1, 0, 2, rfl, by omega, by omega, by rw [cell_blk b5]; rfl, tt _ _ _ b2 _ rfl rfl⟩
  · exact ⟨_, 0, w.heap.size + 1 + 1 + 1, 0, 2, rfl, by omega, by omega, by rw [cell_blk b5]; rfl, tt _ _ _ b3 _ rfl rfl⟩
  · exact ⟨_, 0, w.heap.size + 1 + 1 + 1 + 1, 0, 2, rfl, by omega, by omega, by rw [cell_blk b5]; rfl, tt _ _ _ b4 _ rfl rfl⟩
end Go.Proofs.Ytaalinhkikmfaaa
