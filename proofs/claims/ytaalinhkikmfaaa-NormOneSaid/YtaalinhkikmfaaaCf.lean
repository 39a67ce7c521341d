/- clock.Ahead, within a trace. -/
import Derived.Test.YtaalinhkikmfaaaCe
set_option linter.unusedSimpArgs false
set_option linter.unusedVariables false
namespace Go.Proofs.Ytaalinhkikmfaaa
open Go.RowKit

def tn (l : List Ev) (i : Nat) : Nat := (ev l i).t.toNat
/-- what clocks say of two events. -/
def aheadB (c : Nat → Nat → Nat) (l : List Ev) (i j : Nat) : Bool := decide (i < j) && decide (c i (tn l i) ≤ c j (tn l i))
set_option maxRecDepth 100000 in
set_option maxHeartbeats 4000000 in
theorem ahead_any (l : List Ev) (hl : l.length ≤ 1000000) (n : Nat) (hn : n ≤ 1000) (hgood : ∀ i, i < l.length → 0 ≤ (ev l i).t ∧ (ev l i).t < n) (c : Nat → Nat → Nat) (i j : Nat) (hi : i < l.length) (hj : j < l.length) (A Ac : Option Addr) (cl cc B Bc : Nat) (w : World)
    (hA : Evs w B A l) (hB : B ≤ w.heap.size) (hc : Clk w Bc Ac l.length n c) (hBc : Bc ≤ w.heap.size) :
    Calls Try.prog 51 #[.slice Ac l.length cc, .slice A l.length cl, .int .i64 i, .int .i64 j] w fun e w' => e = .returned (.tuple #[.bool (aheadB c l i j), .int .i64 0]) ∧ Below w.heap.size w w' := by
  obtain ⟨bc, oc, bi, oi, ci, rfl, hb1, hb2, hc1, hc2⟩ := hc i hi
  obtain ⟨_, _, bj, oj, cj, e, hb3, hb4, hc3, hc4⟩ := hc j hj
  injection e with e; injection e with e1 e2; subst e1 e2
  obtain ⟨bl, ol, rfl, hb5, hl1, _⟩ := hA i hi
  obtain ⟨_, _, e, _, hl2, _⟩ := hA j hj
  injection e with e; injection e with e1 e2; subst e1 e2
  obtain ⟨p, hp⟩ := Int.eq_ofNat_of_zero_le (hgood i hi).1
  obtain ⟨q, hq⟩ := Int.eq_ofNat_of_zero_le (hgood j hj).1
  have hpn : p < n := by have := (hgood i hi).2; omega
  have hqn : q < n := by have := (hgood j hj).2; omega
  rw [hp] at hl1
  rw [hq] at hl2
  have Hab : Hid (aheadB c l i j = (decide (i < j) && decide (c i p ≤ c j p))) := Lib.hid (by unfold aheadB tn; rw [hp]; rfl)
  have hi1 := hc2 p hpn
  have hj1 := hc4 p hpn
  clear hgood hc hA hp hq hc2 hc4
  obtain ⟨u, hu⟩ : ∃ u, u = c i p := ⟨_, rfl⟩
  obtain ⟨v, hv⟩ : ∃ v, v = c j p := ⟨_, rfl⟩
  rw [← hu] at hi1 Hab
  rw [← hv] at hj1 Hab
  clear hu hv
  have T : Hid (∀ W, Below w.heap.size w W → W.cell? ⟨bc, oc + i, none⟩ = some (.slice (some ⟨bi, oi, none⟩) n ci) ∧ W.cell? ⟨bc, oc + j, none⟩ = some (.slice (some ⟨bj, oj, none⟩) n cj) ∧ W.cell? ⟨bl, ol + i * 3, none⟩ = some (.int .i64 (p : Int)) ∧ W.cell? ⟨bl, ol + j * 3, none⟩ = some (.int .i64 (q : Int)) ∧
      W.cell? ⟨bi, oi + p, none⟩ = some (.int .i64 (u : Int)) ∧ W.cell? ⟨bj, oj + p, none⟩ = some (.int .i64 (v : Int))) := Lib.hid (fun W hW =>
    ⟨(hW.cell (p := ⟨bc, oc + i, none⟩) (World.block_lt_of_cell? _ _ hc1)).trans hc1, (hW.cell (p := ⟨bc, oc + j, none⟩) (World.block_lt_of_cell? _ _ hc3)).trans hc3, (hW.cell (p := ⟨bl, ol + i * 3, none⟩) (World.block_lt_of_cell? _ _ hl1)).trans hl1, (hW.cell (p := ⟨bl, ol + j * 3, none⟩) (World.block_lt_of_cell? _ _ hl2)).trans hl2,
      (hW.cell (p := ⟨bi, oi + p, none⟩) (World.block_lt_of_cell? _ _ hi1)).trans hi1, (hW.cell (p := ⟨bj, oj + p, none⟩) (World.block_lt_of_cell? _ _ hj1)).trans hj1⟩)
  clear hc1 hc3 hl1 hl2 hi1 hj1
  have g1 : (0 : Int) ≤ i := by omega
  have g2 : (i : Int) < l.length := by omega
  have g3 : (0 : Int) ≤ j := by omega
  have g4 : (j : Int) < l.length := by omega
  go_enter Try.func51, Try.ntmps51
  go_upto_region 3 with (fail)
  apply wp_region_relH (H := []) 10 [(Sum.inl _ : TT), (Sum.inl _ : TT), (Sum.inl _ : TT), (Sum.inl _ : TT), (Sum.inl _ : TT), (Sum.inl _ : TT), (Sum.inl _ : TT), (Sum.inl _ : TT), (Sum.inl _ : TT), (Sum.inl _ : TT)] (by kernel_rfl) (by kernel_rfl) (fun _ _ _ _ _ h => h) rfl
  simp only [List.take_succ_cons, List.take_zero, List.drop_succ_cons, List.drop_zero]
  iterate 10 (apply rel_isS; (intro W hW hf; obtain ⟨hx1, hx2, hx3, hx4, hx5, hx6⟩ := T.out W hW; go_simp; first | exact ⟨StayS.refl _ _, rfl⟩ | rfl); simp only [Act.put, List.setIfInBounds_toArray, List.set_cons_succ, List.set_cons_zero])
  refine rel_endS ?_
  intro W hW hf
  try simp only [Act.put, List.setIfInBounds_toArray, List.set_cons_succ, List.set_cons_zero]
  refine wpList_nil ?_
  have HW := Lib.hid hW
  clear hW hf
  go_wp2_with fail
  generalize hW2 : World.alloc _ _ = w2
  have Hb2 : Hid (Below w.heap.size w w2) := Lib.hid (by subst hW2; exact HW.out.trans ((below_alloc W _).mono HW.out.size))
  have Hx2 : Hid (w2.heap[W.heap.size]? = some (.cells #[.int .i64 (i : Int), .int .i64 (j : Int)] 3 (0, 0))) := Lib.hid (by subst hW2; exact heap_alloc_new _ _)
  clear hW2
  obtain ⟨x1, x2, x3, x4, x5, x6⟩ := T.out w2 Hb2.out
  have y1 : w2.cell? ⟨W.heap.size, 0, none⟩ = some (.int .i64 (i : Int)) := by rw [cell_blk Hx2.out]; rfl
  have y2 : w2.cell? ⟨W.heap.size, 1, none⟩ = some (.int .i64 (j : Int)) := by rw [cell_blk Hx2.out]; rfl
  go_loop [53] (fun kk => ∃ k : Nat, k ≤ 2 ∧ kk = .int .i64 k) (fun kk => 2 - (intOf kk).toNat)
  case atStart => exact ⟨0, by omega, rfl⟩
  case round =>
    obtain ⟨k, hk, rfl⟩ := hrel
    by_cases h2 : k < 2
    · have : k = 0 ∨ k = 1 := by omega
      rcases this with rfl | rfl
      · go_wp2_with fail
        go_round
        case rel => exact ⟨1, by omega, by go_num⟩
        case measure => simp [intOf]
      · go_wp2_with fail
        go_round
        case rel => exact ⟨2, by omega, by go_num⟩
        case measure => simp [intOf]
    · obtain rfl : k = 2 := by omega
      have T2 : Hid (∀ W, Below w2.heap.size w2 W → W.cell? ⟨bi, oi + p, none⟩ = some (.int .i64 (u : Int)) ∧ W.cell? ⟨bj, oj + p, none⟩ = some (.int .i64 (v : Int))) := Lib.hid (fun W hW => (T.out W (Hb2.out.trans (hW.mono Hb2.out.size))).2.2.2.2)
      by_cases hij : i < j
      · have d1 : decide ((i : Int) < j) = true := by rw [decide_eq_true_iff]; omega
        go_upto_region 12 with (fail)
        clear x1 x2 x3 x4 x5 x6 y1 y2
        have g5 : (0 : Int) ≤ p := by omega
        have g6 : (p : Int) < n := by omega
        apply wp_region_relH (H := []) 16 [(Sum.inl _ : TT), (Sum.inl _ : TT), (Sum.inl _ : TT), (Sum.inl _ : TT), (Sum.inl _ : TT), (Sum.inl _ : TT), (Sum.inl _ : TT), (Sum.inl _ : TT), (Sum.inl _ : TT), (Sum.inl _ : TT), (Sum.inl _ : TT), (Sum.inl _ : TT), (Sum.inl _ : TT), (Sum.inl _ : TT), (Sum.inl _ : TT), (Sum.inl _ : TT)] (by kernel_rfl) (by kernel_rfl) (fun _ _ _ _ _ h => h) rfl
        simp only [List.take_succ_cons, List.take_zero, List.drop_succ_cons, List.drop_zero]
        iterate 16 (apply rel_isS; (intro W hW hf; obtain ⟨hx1, hx2⟩ := T2.out W hW; go_simp; first | exact ⟨StayS.refl _ _, rfl⟩ | rfl); simp only [Act.put, List.setIfInBounds_toArray, List.set_cons_succ, List.set_cons_zero])
        refine rel_endS ?_
        intro W hW hf
        try simp only [Act.put, List.setIfInBounds_toArray, List.set_cons_succ, List.set_cons_zero]
        refine wpList_nil ?_
        have HW3 := Lib.hid (Hb2.out.trans (hW.mono Hb2.out.size))
        clear hW hf
        go_wp2_with fail
        go_ret2
        refine ⟨?_, HW3.out⟩
        rw [Hab.out, decide_eq_true hij]
        simp
      · have d1 : decide ((i : Int) < j) = false := by rw [decide_eq_false_iff_not]; omega
        go_upto_region 12 with (fail)
        clear x1 x2 x3 x4 x5 x6 y1 y2
        apply wp_region_relH (H := []) 16 [(Sum.inl _ : TT), (Sum.inl _ : TT), (Sum.inl _ : TT), (Sum.inl _ : TT), (Sum.inl _ : TT), (Sum.inl _ : TT), (Sum.inl _ : TT), (Sum.inl _ : TT), (Sum.inl _ : TT), (Sum.inl _ : TT), (Sum.inl _ : TT), (Sum.inl _ : TT), (Sum.inl _ : TT), (Sum.inl _ : TT), (Sum.inl _ : TT), (Sum.inl _ : TT)] (by kernel_rfl) (by kernel_rfl) (fun _ _ _ _ _ h => h) rfl
        simp only [List.take_succ_cons, List.take_zero, List.drop_succ_cons, List.drop_zero]
        iterate 16 (apply rel_isS; (intro W hW hf; go_simp; first | exact ⟨StayS.refl _ _, rfl⟩ | rfl); simp only [Act.put, List.setIfInBounds_toArray, List.set_cons_succ, List.set_cons_zero])
        refine rel_endS ?_
        intro W hW hf
        try simp only [Act.put, List.setIfInBounds_toArray, List.set_cons_succ, List.set_cons_zero]
        refine wpList_nil ?_
        have HW3 := Lib.hid (Hb2.out.trans (hW.mono Hb2.out.size))
        clear hW hf
        go_wp2_with fail
        go_ret2
        refine ⟨?_, HW3.out⟩
        rw [Hab.out, decide_eq_false hij]
        simp
end Go.Proofs.Ytaalinhkikmfaaa
