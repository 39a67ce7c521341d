/- new blocks, one behind another. -/
import Derived.Test.YtegekaocbalndaaGreatDoorKit
import Derived.Test.YtegekaocbalndaaGreatDoorRelz
set_option linter.unusedSimpArgs false
set_option linter.unusedVariables false
namespace Go.Proofs.YtegekaocbalndaaGreatDoor
open Go.RowKit

theorem boxes1 (w : World) (a : Obj) : (w.alloc a).heap[w.heap.size]? = some a ∧ Below w.heap.size w (w.alloc a) := ⟨heap_alloc_new _ _, below_alloc _ _⟩
theorem boxes2 (w : World) (a b : Obj) : ((w.alloc a).alloc b).heap[w.heap.size]? = some a ∧ ((w.alloc a).alloc b).heap[w.heap.size + 1]? = some b ∧ Below w.heap.size w ((w.alloc a).alloc b) := by
  have h := boxes1 w a
  refine ⟨alloc_blk h.1 _, ?_, h.2.alloc (by simp) _⟩
  have := heap_alloc_new (w.alloc a) b
  rwa [World.size_alloc] at this
theorem boxes3 (w : World) (a b c : Obj) : (((w.alloc a).alloc b).alloc c).heap[w.heap.size]? = some a ∧ (((w.alloc a).alloc b).alloc c).heap[w.heap.size + 1]? = some b ∧ (((w.alloc a).alloc b).alloc c).heap[w.heap.size + 1 + 1]? = some c ∧ Below w.heap.size w (((w.alloc a).alloc b).alloc c) := by
  have h := boxes2 w a b
  refine ⟨alloc_blk h.1 _, alloc_blk h.2.1 _, ?_, h.2.2.alloc (by simp; omega) _⟩
  have := heap_alloc_new ((w.alloc a).alloc b) c
  rwa [World.size_alloc, World.size_alloc] at this
theorem boxes4 (w : World) (a b c d : Obj) : ((((w.alloc a).alloc b).alloc c).alloc d).heap[w.heap.size]? = some a ∧ ((((w.alloc a).alloc b).alloc c).alloc d).heap[w.heap.size + 1]? = some b ∧ ((((w.alloc a).alloc b).alloc c).alloc d).heap[w.heap.size + 1 + 1]? = some c ∧ ((((w.alloc a).alloc b).alloc c).alloc d).heap[w.heap.size + 1 + 1 + 1]? = some d ∧ Below w.heap.size w ((((w.alloc a).alloc b).alloc c).alloc d) := by
  have h := boxes3 w a b c
  refine ⟨alloc_blk h.1 _, alloc_blk h.2.1 _, alloc_blk h.2.2.1 _, ?_, h.2.2.2.alloc (by simp; omega) _⟩
  have := heap_alloc_new (((w.alloc a).alloc b).alloc c) d
  rwa [World.size_alloc, World.size_alloc, World.size_alloc] at this
theorem boxes5 (w : World) (a b c d e : Obj) : (((((w.alloc a).alloc b).alloc c).alloc d).alloc e).heap[w.heap.size]? = some a ∧ (((((w.alloc a).alloc b).alloc c).alloc d).alloc e).heap[w.heap.size + 1]? = some b ∧ (((((w.alloc a).alloc b).alloc c).alloc d).alloc e).heap[w.heap.size + 1 + 1]? = some c ∧ (((((w.alloc a).alloc b).alloc c).alloc d).alloc e).heap[w.heap.size + 1 + 1 + 1]? = some d ∧ (((((w.alloc a).alloc b).alloc c).alloc d).alloc e).heap[w.heap.size + 1 + 1 + 1 + 1]? = some e ∧ Below w.heap.size w (((((w.alloc a).alloc b).alloc c).alloc d).alloc e) := by
  have h := boxes4 w a b c d
  refine ⟨alloc_blk h.1 _, alloc_blk h.2.1 _, alloc_blk h.2.2.1 _, alloc_blk h.2.2.2.1 _, ?_, h.2.2.2.2.alloc (by simp; omega) _⟩
  have := heap_alloc_new ((((w.alloc a).alloc b).alloc c).alloc d) e
  rwa [World.size_alloc, World.size_alloc, World.size_alloc, World.size_alloc] at this
end Go.Proofs.YtegekaocbalndaaGreatDoor
