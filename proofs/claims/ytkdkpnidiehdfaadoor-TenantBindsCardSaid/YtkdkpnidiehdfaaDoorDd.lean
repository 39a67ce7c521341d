import Derived.Test.YtkdkpnidiehdfaaDoorDa
import Derived.Test.YtkdkpnidiehdfaaDoorHash
import Derived.Laws.Tables
import Derived.Laws.CopyOwn
set_option linter.unusedSimpArgs false
set_option linter.unusedVariables false
namespace Go.Proofs.YtkdkpnidiehdfaaDoor
open Go.RowKit

set_option maxHeartbeats 400000 in
theorem none_nil (w : World) :
    Calls Tryd.prog 58 #[.pointer none] w fun e w' => e = .returned (.bool true) ∧ w = w' := by
  go_enter Tryd.func58, Tryd.ntmps58
  go_wp2
  go_ret
  exact ⟨rfl, rfl⟩

set_option maxHeartbeats 400000 in
theorem none_some (b : Nat) (m : Bool) (w : World) (h : w.cell? ⟨b, 73, none⟩ = some (.bool m)) :
    Calls Tryd.prog 58 #[.pointer (some ⟨b, 0, none⟩)] w fun e w' => e = .returned (.bool (!m)) ∧ w = w' := by
  go_enter Tryd.func58, Tryd.ntmps58
  go_wp2
  go_ret
  exact ⟨rfl, rfl⟩

set_option maxHeartbeats 400000 in
theorem begin_dig (w : World) :
    Calls Tryd.prog 60 #[] w fun e w' => e = .returned (.agg St.init.cells) ∧ Below w.heap.size w w' := by
  go_enter Tryd.func60, Tryd.ntmps60
  go_wp2
  exact bodyPost_ret (v := .agg St.init.cells) (by simp [results, Tryd.results60, go_sem]; rfl) rfl ⟨rfl, (Below.refl _ _).alloc (Nat.le_refl _) _⟩

set_option maxHeartbeats 400000 in
theorem begin_ref (w : World) :
    Calls Tryd.prog 54 #[] w fun e w' => e = .returned (.agg St.init.cells) ∧ Below w.heap.size w w' := by
  go_enter Tryd.func54, Tryd.ntmps54
  go_wp2
  exact bodyPost_ret (v := .agg St.init.cells) (by simp [results, Tryd.results54, go_sem]; rfl) rfl ⟨rfl, (Below.refl _ _).alloc (Nat.le_refl _) _⟩

set_option maxRecDepth 100000 in
set_option maxHeartbeats 400000 in
theorem table_ref (w : World) :
    Calls Tryd.prog 55 #[] w fun e w' => e = .returned (.agg (wcells kTab)) ∧ Below w.heap.size w w' := by
  have hs : (wcells kTab).size = 64 := kTab_size
  have h1 : (wcells kTab).all (·.oneCell') = true := by rw [Array.all_eq_true_iff_forall_mem]; intro x hx; simp [wcells] at hx; obtain ⟨y, _, rfl⟩ := hx; rfl
  go_enter Tryd.func55, Tryd.ntmps55
  go_wp2_with (first
    | (refine wpList_build (o := ⟨some 1, _, _, _, _, _⟩) rfl _ _ rfl (by kernel_rfl) ?_
       generalize hc : Option.getD _ _ = c
       have hc' : c = wcells kTab := hc.symm.trans (by kernel_rfl)
       clear hc
       subst hc'
       generalize hce : wcells kTab = c at hs h1
       have Hce := Lib.hid hce
       clear hce)
    | (refine wpList_store_row (o := ⟨none, _, _, _, _, _⟩) rfl _ _ _ rfl w.heap.size c rfl rfl _ _ (heap_alloc_new _ _) (by rw [hs]; kernel_rfl) (by rw [hs]; rfl) h1 ?_))
  rw [Hce.out]
  exact bodyPost_ret (results_cell_row rfl _ _ w.heap.size 101 c (0, 0) _ rfl (setRow_heap _ _ _ c _ (0, 0) (heap_alloc_new _ _)) Tryd.underlying101 rfl (by rw [hs]; kernel_rfl)) rfl ⟨rfl, below_setRow ((Below.refl _ _).alloc (Nat.le_refl _) _) (Nat.le_refl _) _⟩

set_option maxHeartbeats 400000 in
theorem new_any (w : World) :
    Calls Tryd.prog 25 #[] w fun e w' => ∃ g, e = .returned (.pointer (some ⟨g, 0, none⟩)) ∧ w.heap.size ≤ g ∧ w'.heap[g]? = some (.cells HS.init.cells 35 (0, 0)) ∧ Below w.heap.size w w' := by
  go_enter Tryd.func25, Tryd.ntmps25
  go_wp2_with (go_at_call 60; refine (begin_dig _).mono ?_; rintro e w' ⟨rfl, hb⟩; unfold St.cells)
  go_ret
  exact ⟨w'.heap.size, rfl, hb.size, (heap_alloc_new _ _).trans (congrArg (fun c => some (Obj.cells c 35 (0, 0))) (by kernel_rfl)), hb.alloc hb.size _⟩

set_option maxHeartbeats 400000 in
theorem len_any (g : Nat) (h : HS) (hl : h.wait.length = 64) (w : World) (hg : w.heap[g]? = some (.cells h.cells 35 (0, 0))) :
    Calls Tryd.prog 21 #[.pointer (some ⟨g, 0, none⟩)] w fun e w' => e = .returned (.int .i64 h.n) ∧ w = w' := by
  have hm : w.cell? ⟨g, 73, none⟩ = some (.bool true) := by rw [cell_blk hg, hcells_made h hl]
  have hn : w.cell? ⟨g, 72, none⟩ = some (.int .i64 h.n) := by rw [cell_blk hg, hcells_n h hl]
  clear hg
  go_enter Tryd.func21, Tryd.ntmps21
  go_wp2_with (go_at_call 58; refine (none_some _ _ _ hm).mono ?_; rintro e w' ⟨rfl, rfl⟩)
  go_ret
  exact ⟨rfl, rfl⟩
end Go.Proofs.YtkdkpnidiehdfaaDoor
