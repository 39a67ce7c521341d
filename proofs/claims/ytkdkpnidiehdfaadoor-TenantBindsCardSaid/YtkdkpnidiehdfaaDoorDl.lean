/- a hash that is nil, or that nobody made; the clone. -/
import Derived.Test.YtkdkpnidiehdfaaDoorDk
import Derived.Test.YtkdkpnidiehdfaaDoorEq
set_option linter.unusedSimpArgs false
set_option linter.unusedVariables false
namespace Go.Proofs.YtkdkpnidiehdfaaDoor
open Go.RowKit

def NoHash (w : World) (v : Value) : Prop := v = .pointer none ∨ ∃ g, v = .pointer (some ⟨g, 0, none⟩) ∧ w.cell? ⟨g, 73, none⟩ = some (.bool false)
theorem NoHash.keep {w w' : World} {v : Value} (h : NoHash w v) (hk : ∀ b o, b < w.heap.size → w'.cell? ⟨b, o, none⟩ = w.cell? ⟨b, o, none⟩) : NoHash w' v := by
  rcases h with rfl | ⟨g, rfl, hc⟩
  · exact .inl rfl
  · exact .inr ⟨g, rfl, (hk g 73 (World.block_lt_of_cell? _ _ hc)).trans hc⟩
theorem none_no (v : Value) (w : World) (h : NoHash w v) : Calls Tryd.prog 58 #[v] w fun e w' => e = .returned (.bool true) ∧ w = w' := by
  rcases h with rfl | ⟨g, rfl, hc⟩
  · exact none_nil w
  · exact none_some g false w hc

def zeros32 : List UInt8 := List.replicate 32 0
theorem zeros_dg : dg zeros32 = .agg #[.int .u8 0, .int .u8 0, .int .u8 0, .int .u8 0, .int .u8 0, .int .u8 0, .int .u8 0, .int .u8 0, .int .u8 0, .int .u8 0, .int .u8 0, .int .u8 0, .int .u8 0, .int .u8 0, .int .u8 0, .int .u8 0, .int .u8 0, .int .u8 0, .int .u8 0, .int .u8 0, .int .u8 0, .int .u8 0, .int .u8 0, .int .u8 0, .int .u8 0, .int .u8 0, .int .u8 0, .int .u8 0, .int .u8 0, .int .u8 0, .int .u8 0, .int .u8 0] := rfl

set_option maxHeartbeats 400000 in
theorem write_no (v x : Value) (w : World) (h : NoHash w v) : Calls Tryd.prog 19 #[v, x] w fun e w' => e = .returned (.int .i64 1) ∧ w = w' := by
  have H := Lib.hid h
  clear h
  go_enter Tryd.func19, Tryd.ntmps19
  go_wp2_with fail
  refine (none_no v w H.out).mono ?_
  rintro e w' ⟨rfl, rfl⟩
  go_wp2_with fail
  go_ret
  exact ⟨rfl, rfl⟩
set_option maxHeartbeats 400000 in
theorem len_no (v : Value) (w : World) (h : NoHash w v) : Calls Tryd.prog 21 #[v] w fun e w' => e = .returned (.int .i64 0) ∧ w = w' := by
  have H := Lib.hid h
  clear h
  go_enter Tryd.func21, Tryd.ntmps21
  go_wp2_with fail
  refine (none_no v w H.out).mono ?_
  rintro e w' ⟨rfl, rfl⟩
  go_wp2_with fail
  go_ret
  exact ⟨rfl, rfl⟩
set_option maxHeartbeats 400000 in
theorem clone_no (v : Value) (w : World) (h : NoHash w v) : Calls Tryd.prog 22 #[v] w fun e w' => e = .returned (.pointer none) ∧ w = w' := by
  have H := Lib.hid h
  clear h
  go_enter Tryd.func22, Tryd.ntmps22
  go_wp2_with fail
  refine (none_no v w H.out).mono ?_
  rintro e w' ⟨rfl, rfl⟩
  go_wp2_with fail
  go_ret
  exact ⟨rfl, rfl⟩
set_option maxRecDepth 100000 in
set_option maxHeartbeats 1000000 in
theorem sum_no (v : Value) (w : World) (h : NoHash w v) : Calls Tryd.prog 20 #[v] w fun e w' => e = .returned (dg zeros32) ∧ Below w.heap.size w w' := by
  have H := Lib.hid h
  clear h
  have hz := zeros_dg
  have Hsz : Hid ((bcells zeros32).toArray.size = 32) := Lib.hid rfl
  have Hone : Hid ((bcells zeros32).toArray.all (·.oneCell') = true) := Lib.hid (by
    rw [Array.all_eq_true_iff_forall_mem]; intro x hx; exact bcells_one _ x (by simpa using hx))
  have Hdg : Hid (dg zeros32 = .agg (bcells zeros32).toArray) := Lib.hid rfl
  rw [Hdg.out] at hz ⊢
  generalize (bcells zeros32).toArray = zs at hz Hsz Hone
  injection hz with hz
  have Hz := Lib.hid hz
  clear hz Hdg
  go_enter Tryd.func20, Tryd.ntmps20
  go_upto_region 2 with (fail)
  rw [← Hz.out]
  generalize hw1 : w.alloc (.cells zs 25) = w1
  generalize hw2 : w1.alloc (.cells zs 25) = w2
  have H2 : Hid (NoHash w2 v) := Lib.hid (by
    subst hw2 hw1
    refine H.out.keep fun b o hb => ?_
    rw [World.cell?_alloc_lt _ _ _ (by simp; omega), World.cell?_alloc_lt _ _ _ hb])
  have Hr : Hid (w2.heap[w.heap.size]? = some (.cells zs 25 (0, 0))) := Lib.hid (by subst hw2 hw1; exact alloc_blk (heap_alloc_new _ _) _)
  have Hd : Hid (w2.heap[w.heap.size + 1]? = some (.cells zs 25 (0, 0))) := Lib.hid (by
    subst hw2 hw1
    have := heap_alloc_new (w.alloc (.cells zs 25)) (.cells zs 25)
    simpa using this)
  have Hb : Hid (Below w.heap.size w w2) := Lib.hid (by subst hw2 hw1; exact ((Below.refl _ _).alloc (Nat.le_refl _) _).alloc (by simp) _)
  clear hw1 hw2
  go_wp2_with fail
  refine (none_no v _ H2.out).mono ?_
  rintro e w' ⟨rfl, rfl⟩
  generalize hr : w.heap.size = r
  rw [hr] at Hr Hd Hb
  go_wp2_with (first
    | (refine wpList_load_row (o := ⟨some 11, .load 25 (.tmp 3), _, _, _, _⟩) rfl _ _ rfl (r + 1) rfl _ zs (0, 0) _ Hd.out Tryd.underlying25 rfl (by rw [Hsz.out]; kernel_rfl) ?_)
    | (refine wpList_store_row (o := ⟨none, .store 25 (.tmp 2) (.tmp 11), _, _, _, _⟩) rfl _ _ _ rfl r zs rfl rfl _ zs Hr.out (by rw [Hsz.out]; kernel_rfl) (by rw [Hsz.out]) Hone.out ?_))
  refine bodyPost_ret (results_cell_row rfl _ _ r 25 zs (0, 0) _ rfl (setRow_heap _ _ _ zs _ (0, 0) Hr.out) Tryd.underlying25 rfl (by rw [Hsz.out]; kernel_rfl)) rfl ⟨rfl, ?_⟩
  rw [hr]
  exact below_setRow Hb.out (Nat.le_refl _) _
end Go.Proofs.YtkdkpnidiehdfaaDoor
