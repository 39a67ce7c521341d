/- what a log tells: Len, Size, Broken, Fits. -/
import Derived.Test.YtdmodhcbcpmadaaDoorNc
set_option linter.unusedSimpArgs false
set_option linter.unusedVariables false
namespace Go.Proofs.YtdmodhcbcpmadaaDoor
open Go.RowKit

set_option maxRecDepth 100000 in
set_option maxHeartbeats 2000000 in
theorem lbroken_at {w : World} {q p : Nat} {L : Lg} (h : LogAt w q p L) : Calls Tryd.prog 24 #[.pointer (some ⟨q, 0, none⟩)] w fun e w' => e = .returned (.bool L.broken) ∧ w' = w := by
  have c0 := cell_blk h 5
  simp only [List.getElem?_toArray, List.getElem?_cons_succ, List.getElem?_cons_zero] at c0
  have HN := Lib.hid (lnone_at h)
  go_enter Tryd.func24, Tryd.ntmps24
  go_wp2_with fail
  refine HN.out.mono ?_
  rintro e w1 ⟨rfl, rfl⟩
  go_wp2_with fail
  go_ret
  exact ⟨rfl, rfl⟩
set_option maxRecDepth 100000 in
set_option maxHeartbeats 2000000 in
theorem fsize_at (n : Nat) (hn : n ≤ 65536) (w : World) : Calls Tryd.prog 53 #[.int .i64 n] w fun e w' => e = .returned (.int .i64 (n + 12 : Nat)) ∧ w' = w := by
  go_enter Tryd.func53, Tryd.ntmps53
  go_wp2_with fail
  go_ret
  exact ⟨by simp only [Int.natCast_add]; rfl, rfl⟩
def lfits (L : Lg) (n : Int) : Bool := decide (0 ≤ n ∧ n ≤ 65536 ∧ n + 12 + L.size ≤ L.reserve)
set_option maxRecDepth 100000 in
set_option maxHeartbeats 2000000 in
theorem lfits_at {w : World} {q p : Nat} {L : Lg} (h : LogAt w q p L) (hok : L.Ok) (n : Int) : Calls Tryd.prog 38 #[.pointer (some ⟨q, 0, none⟩), .int .i64 n] w fun e w' => e = .returned (.bool (lfits L n)) ∧ Below w.heap.size w w' := by
  have HL := Lib.hid h
  have HN : Hid (∀ W, Below w.heap.size w W → Calls Tryd.prog 52 #[.pointer (some ⟨q, 0, none⟩)] W fun e w' => e = .returned (.bool false) ∧ Below W.heap.size W w') := Lib.hid fun W hW => (lnone_at (L := L) (show LogAt W q p L from (hW.block _ h.lt).trans h)).mono fun e w' h => ⟨h.1, h.2 ▸ Below.refl _ _⟩
  have HCC : Hid (∀ W, Below w.heap.size w W → W.cell? ⟨q, 2, none⟩ = some (.int .i64 L.reserve) ∧ W.cell? ⟨q, 4, none⟩ = some (.int .i64 L.size)) := Lib.hid fun W hW => by
    have a := cell_blk ((hW.block _ h.lt).trans h)
    exact ⟨a 2, a 4⟩
  have h1 := hok.reserve; have h2 := hok.size
  have hwr : IntKind.i64.wrap ((L.reserve : Int) - (L.size : Int)) = (L.reserve : Int) - (L.size : Int) := wi64 _ (by omega) (by omega)
  clear h hok
  go_enter Tryd.func38, Tryd.ntmps38
  go_upto_region 1 with (fail)
  by_cases hn : n < 0
  · have HZ : Hid (lfits L n = false) := Lib.hid (by unfold lfits; rw [decide_eq_false]; omega)
    have hn2 : ¬ 0 ≤ n := by omega
    apply wp_region_relH (H := []) 25 [(Sum.inl _ : TT), (Sum.inl _ : TT), (Sum.inl _ : TT), (Sum.inl _ : TT), (Sum.inl _ : TT), (Sum.inl _ : TT), (Sum.inl _ : TT), (Sum.inl _ : TT), (Sum.inl _ : TT), (Sum.inl _ : TT), (Sum.inl _ : TT), (Sum.inl _ : TT), (Sum.inl _ : TT), (Sum.inl _ : TT), (Sum.inl _ : TT), (Sum.inl _ : TT), (Sum.inl _ : TT), (Sum.inl _ : TT), (Sum.inl _ : TT), (Sum.inl _ : TT), (Sum.inl _ : TT), (Sum.inl _ : TT), (Sum.inl _ : TT), (Sum.inl _ : TT), (Sum.inl _ : TT)] (by kernel_rfl) (by kernel_rfl) (fun _ _ _ _ _ h => h) rfl
    simp only [List.take_succ_cons, List.take_zero, List.drop_succ_cons, List.drop_zero]
    iterate 1 (apply rel_isS; (intro W hW hf; go_simp; first | exact ⟨StayS.refl _ _, rfl⟩ | rfl); simp only [Act.put, List.setIfInBounds_toArray, List.set_cons_succ, List.set_cons_zero])
    apply rel_isS
    · intro W hW hf
      exact rel_callS hW rfl (by go_simp <;> first | rfl | exact ⟨rfl, rfl⟩ | exact ⟨rfl, rfl, rfl⟩) ((HN.out W hW).mono fun e w'' h => ⟨_, h.1, h.2, rfl⟩)
    simp only [Act.put, List.setIfInBounds_toArray, List.set_cons_succ, List.set_cons_zero]
    iterate 23 (apply rel_isS; (intro W hW hf; go_simp; first | exact ⟨StayS.refl _ _, rfl⟩ | rfl); simp only [Act.put, List.setIfInBounds_toArray, List.set_cons_succ, List.set_cons_zero])
    refine rel_endS ?_
    intro W hW hf
    try simp only [Act.put, List.setIfInBounds_toArray, List.set_cons_succ, List.set_cons_zero]
    have HW := Lib.hid hW
    clear hW hf
    go_wp2_with fail
    go_ret
    exact ⟨ret_bool (by rw [HZ.out]), HW.out⟩
  · obtain ⟨n, rfl⟩ : ∃ k : Nat, n = k := ⟨n.toNat, by omega⟩
    by_cases hm : 65536 < n
    · have HZ : Hid (lfits L n = false) := Lib.hid (by unfold lfits; rw [decide_eq_false]; omega)
      have hm2 : ¬ (n : Int) ≤ 65536 := by omega
      apply wp_region_relH (H := []) 25 [(Sum.inl _ : TT), (Sum.inl _ : TT), (Sum.inl _ : TT), (Sum.inl _ : TT), (Sum.inl _ : TT), (Sum.inl _ : TT), (Sum.inl _ : TT), (Sum.inl _ : TT), (Sum.inl _ : TT), (Sum.inl _ : TT), (Sum.inl _ : TT), (Sum.inl _ : TT), (Sum.inl _ : TT), (Sum.inl _ : TT), (Sum.inl _ : TT), (Sum.inl _ : TT), (Sum.inl _ : TT), (Sum.inl _ : TT), (Sum.inl _ : TT), (Sum.inl _ : TT), (Sum.inl _ : TT), (Sum.inl _ : TT), (Sum.inl _ : TT), (Sum.inl _ : TT), (Sum.inl _ : TT)] (by kernel_rfl) (by kernel_rfl) (fun _ _ _ _ _ h => h) rfl
      simp only [List.take_succ_cons, List.take_zero, List.drop_succ_cons, List.drop_zero]
      iterate 1 (apply rel_isS; (intro W hW hf; go_simp; first | exact ⟨StayS.refl _ _, rfl⟩ | rfl); simp only [Act.put, List.setIfInBounds_toArray, List.set_cons_succ, List.set_cons_zero])
      apply rel_isS
      · intro W hW hf
        exact rel_callS hW rfl (by go_simp <;> first | rfl | exact ⟨rfl, rfl⟩ | exact ⟨rfl, rfl, rfl⟩) ((HN.out W hW).mono fun e w'' h => ⟨_, h.1, h.2, rfl⟩)
      simp only [Act.put, List.setIfInBounds_toArray, List.set_cons_succ, List.set_cons_zero]
      iterate 23 (apply rel_isS; (intro W hW hf; go_simp; first | exact ⟨StayS.refl _ _, rfl⟩ | rfl); simp only [Act.put, List.setIfInBounds_toArray, List.set_cons_succ, List.set_cons_zero])
      refine rel_endS ?_
      intro W hW hf
      try simp only [Act.put, List.setIfInBounds_toArray, List.set_cons_succ, List.set_cons_zero]
      have HW := Lib.hid hW
      clear hW hf
      go_wp2_with fail
      go_ret
      exact ⟨ret_bool (by rw [HZ.out]), HW.out⟩
    · have hm2 : (n : Int) ≤ 65536 := by omega
      have hsm : n ≤ 65536 := by omega
      have HSZ := Lib.hid (fun W => fsize_at n hsm W)
      have HZ : Hid (lfits L n = decide (((n + 12 : Nat) : Int) ≤ (L.reserve : Int) - (L.size : Int))) := Lib.hid (by unfold lfits; rw [decide_eq_decide]; omega)
      apply wp_region_relH (H := []) 25 [(Sum.inl _ : TT), (Sum.inl _ : TT), (Sum.inl _ : TT), (Sum.inl _ : TT), (Sum.inl _ : TT), (Sum.inl _ : TT), (Sum.inl _ : TT), (Sum.inl _ : TT), (Sum.inl _ : TT), (Sum.inl _ : TT), (Sum.inl _ : TT), (Sum.inl _ : TT), (Sum.inl _ : TT), (Sum.inl _ : TT), (Sum.inl _ : TT), (Sum.inl _ : TT), (Sum.inl _ : TT), (Sum.inl _ : TT), (Sum.inl _ : TT), (Sum.inl _ : TT), (Sum.inl _ : TT), (Sum.inl _ : TT), (Sum.inl _ : TT), (Sum.inl _ : TT), (Sum.inl _ : TT)] (by kernel_rfl) (by kernel_rfl) (fun _ _ _ _ _ h => h) rfl
      simp only [List.take_succ_cons, List.take_zero, List.drop_succ_cons, List.drop_zero]
      iterate 1 (apply rel_isS; (intro W hW hf; go_simp; first | exact ⟨StayS.refl _ _, rfl⟩ | rfl); simp only [Act.put, List.setIfInBounds_toArray, List.set_cons_succ, List.set_cons_zero])
      apply rel_isS
      · intro W hW hf
        exact rel_callS hW rfl (by go_simp <;> first | rfl | exact ⟨rfl, rfl⟩ | exact ⟨rfl, rfl, rfl⟩) ((HN.out W hW).mono fun e w'' h => ⟨_, h.1, h.2, rfl⟩)
      simp only [Act.put, List.setIfInBounds_toArray, List.set_cons_succ, List.set_cons_zero]
      iterate 11 (apply rel_isS; (intro W hW hf; go_simp; first | exact ⟨StayS.refl _ _, rfl⟩ | rfl); simp only [Act.put, List.setIfInBounds_toArray, List.set_cons_succ, List.set_cons_zero])
      apply rel_isS
      · intro W hW hf
        exact rel_callS hW (by first | rfl | (go_simp; done) | (go_simp; simp)) (by go_simp <;> first | rfl | exact ⟨rfl, rfl⟩ | exact ⟨rfl, rfl, rfl⟩) ((HSZ.out W).mono fun e w'' h => ⟨_, h.1, h.2 ▸ Below.refl _ _, rfl⟩)
      simp only [Act.put, List.setIfInBounds_toArray, List.set_cons_succ, List.set_cons_zero]
      iterate 11 (apply rel_isS; (intro W hW hf; obtain ⟨z1, z2⟩ := HCC.out W hW; go_simp; first | exact ⟨StayS.refl _ _, rfl⟩ | rfl); simp only [Act.put, List.setIfInBounds_toArray, List.set_cons_succ, List.set_cons_zero])
      refine rel_endS ?_
      intro W hW hf
      try simp only [Act.put, List.setIfInBounds_toArray, List.set_cons_succ, List.set_cons_zero]
      have HW := Lib.hid hW
      clear hW hf
      go_wp2_with fail
      go_ret
      exact ⟨ret_bool (by rw [HZ.out]; simp only [Int.natCast_add]; rfl), HW.out⟩
end Go.Proofs.YtdmodhcbcpmadaaDoor
