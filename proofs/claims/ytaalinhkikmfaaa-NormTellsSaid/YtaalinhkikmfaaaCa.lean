/- events: which ones depend on one another. -/
import Derived.Test.YtaalinhkikmfaaaCp
import Derived.Test.YtaalinhkikmfaaaProg
import Derived.Test.YtaalinhkikmfaaaSm
set_option linter.unusedSimpArgs false
set_option linter.unusedVariables false
namespace Go.Proofs.Ytaalinhkikmfaaa
open Go.RowKit

def Ev.v (e : Ev) : Value := .agg #[.int .i64 e.t, .int .i64 e.k, .int .i64 e.o]
def bitZ (k : Int) : Int := if k < 0 ∨ 4 < k then 0 else 2 ^ k.toNat
set_option maxHeartbeats 400000 in
theorem bit_any (k : Int) (w : World) : Calls Try.prog 47 #[.int .i64 k] w fun e w' => e = .returned (.int .i64 (bitZ k)) ∧ w = w' := by
  by_cases h1 : k < 0
  · have Hs : Hid (bitZ k = 0) := Lib.hid (if_pos (.inl h1))
    go_enter Try.func47, Try.ntmps47
    go_wp2_with fail
    go_ret
    exact ⟨by rw [Hs.out]; rfl, rfl⟩
  by_cases h2 : 4 < k
  · have Hs : Hid (bitZ k = 0) := Lib.hid (if_pos (.inr h2))
    go_enter Try.func47, Try.ntmps47
    go_wp2_with fail
    go_ret
    exact ⟨by rw [Hs.out]; rfl, rfl⟩
  · have : k = 0 ∨ k = 1 ∨ k = 2 ∨ k = 3 ∨ k = 4 := by omega
    rcases this with rfl | rfl | rfl | rfl | rfl
    all_goals
      clear h1 h2
      go_enter Try.func47, Try.ntmps47
      go_wp2_with fail
      go_ret
      exact ⟨rfl, rfl⟩
theorem bit_cases (k : Int) : bitZ k = 0 ∧ isMx k = false ∧ isVr k = false ∧ k ≠ 2 ∨ k = 0 ∨ k = 1 ∨ k = 2 ∨ k = 3 ∨ k = 4 := by
  by_cases h : k < 0 ∨ 4 < k
  · refine .inl ⟨if_pos h, ?_, ?_, by omega⟩
    · simp only [isMx, decide_eq_false_iff_not]; omega
    · simp only [isVr, decide_eq_false_iff_not]; omega
  · exact .inr (by omega)
theorem bit_mx (k : Int) : (bits .and .i64 (bitZ k) 24 != 0) = isMx k := by
  rcases bit_cases k with ⟨h, h1, _⟩ | rfl | rfl | rfl | rfl | rfl
  · rw [h, h1]; decide
  all_goals decide
theorem bit_vr (k : Int) : (bits .and .i64 (bitZ k) 6 != 0) = isVr k := by
  rcases bit_cases k with ⟨h, _, h1, _⟩ | rfl | rfl | rfl | rfl | rfl
  · rw [h, h1]; decide
  all_goals decide
theorem bit_wr (j k : Int) : (bits .and .i64 (bits .or .i64 (bitZ j) (bitZ k)) 4 != 0) = decide (j = 2 ∨ k = 2) := by
  rcases bit_cases j with ⟨h, _, _, h1⟩ | rfl | rfl | rfl | rfl | rfl <;> rcases bit_cases k with ⟨h', _, _, h1'⟩ | rfl | rfl | rfl | rfl | rfl
  all_goals (try rw [h]); (try rw [h']); first | decide | (simp [h1, h1']; decide) | (simp [h1]; decide) | (simp [h1']; decide)
set_option maxRecDepth 100000 in
set_option maxHeartbeats 4000000 in
theorem depends_any (a b : Ev) (w : World) : Calls Try.prog 31 #[a.v, b.v] w fun e w' => e = .returned (.bool (dpd a b)) ∧ Below w.heap.size w w' := by
  obtain ⟨at_, ak, ao⟩ := a
  obtain ⟨bt, bk, bo⟩ := b
  unfold Ev.v
  by_cases ht : at_ = bt
  · have Hd : Hid (dpd ⟨at_, ak, ao⟩ ⟨bt, bk, bo⟩ = true) := Lib.hid (dpd_same ht)
    have d1 : (at_ == bt) = true := by rw [beq_iff_eq]; exact ht
    clear ht
    go_enter Try.func31, Try.ntmps31
    go_wp2_with fail
    go_ret
    exact ⟨by rw [Hd.out]; rfl, ((Below.refl _ _).alloc (Nat.le_refl _) _).alloc (by simp) _⟩
  have d1 : (at_ == bt) = false := by rw [beq_eq_false_iff_ne]; exact ht
  by_cases ho : ao = bo
  · have d2 : (ao != bo) = false := by rw [bne_eq_false_iff_eq]; exact ho
    have Hd : Hid (dpd ⟨at_, ak, ao⟩ ⟨bt, bk, bo⟩ = ((isMx ak && isMx bk) || (isVr ak && isVr bk && decide (ak = 2 ∨ bk = 2)))) := Lib.hid (by simp [dpd, ht, ho])
    clear ht ho
    have m1 := bit_mx ak; have m2 := bit_mx bk; have v1 := bit_vr ak; have v2 := bit_vr bk; have r1 := bit_wr ak bk
    have B1 : Hid (∀ W : World, Calls Try.prog 47 #[.int .i64 ak] W fun e W' => ∃ v, e = .returned v ∧ Below W.heap.size W W' ∧ ttHolds (.inl (.int .i64 (bitZ ak))) v W') := Lib.hid (fun W => (bit_any ak W).mono fun e W' ⟨h1, h2⟩ => ⟨_, h1, h2 ▸ Below.refl _ _, rfl⟩)
    have B2 : Hid (∀ W : World, Calls Try.prog 47 #[.int .i64 bk] W fun e W' => ∃ v, e = .returned v ∧ Below W.heap.size W W' ∧ ttHolds (.inl (.int .i64 (bitZ bk))) v W') := Lib.hid (fun W => (bit_any bk W).mono fun e W' ⟨h1, h2⟩ => ⟨_, h1, h2 ▸ Below.refl _ _, rfl⟩)
    generalize isMx ak = ma at *
    generalize isMx bk = mb at *
    generalize isVr ak = va at *
    generalize isVr bk = vb at *
    generalize decide (ak = 2 ∨ bk = 2) = wr at *
    generalize bitZ ak = x at *
    generalize bitZ bk = y at *
    have M1 := Lib.hid m1; have M2 := Lib.hid m2; have V1 := Lib.hid v1; have V2 := Lib.hid v2; have R1 := Lib.hid r1
    clear m1 m2 v1 v2 r1
    go_enter Try.func31, Try.ntmps31
    go_upto_region 5 with (fail)
    generalize hw2 : World.alloc (World.alloc _ _) _ = w2
    have C1 : Hid (∀ W, Below w2.heap.size w2 W → W.cell? ⟨w.heap.size, 1, none⟩ = some (.int .i64 ak)) := Lib.hid (fun W hW => by
      rw [hW.cell (p := ⟨w.heap.size, 1, none⟩) (by subst hw2; simp; omega)]; subst hw2
      rw [World.cell?_alloc_lt _ _ _ (by simp), cell_blk (heap_alloc_new _ _)]; rfl)
    have C2 : Hid (∀ W, Below w2.heap.size w2 W → W.cell? ⟨w.heap.size + 1, 1, none⟩ = some (.int .i64 bk)) := Lib.hid (fun W hW => by
      rw [hW.cell (p := ⟨w.heap.size + 1, 1, none⟩) (by subst hw2; simp)]; subst hw2
      rw [cell_blk (g := w.heap.size + 1) (by have := heap_alloc_new (w.alloc (.cells #[.int .i64 at_, .int .i64 ak, .int .i64 ao] 50)) (.cells #[.int .i64 bt, .int .i64 bk, .int .i64 bo] 50); simpa using this)]; rfl)
    have Hb2 : Hid (Below w.heap.size w w2) := Lib.hid (by subst hw2; exact ((Below.refl _ _).alloc (Nat.le_refl _) _).alloc (by simp) _)
    clear hw2
    apply wp_region_relH (H := []) 8 [(Sum.inl _ : TT), (Sum.inl _ : TT), (Sum.inl _ : TT), (Sum.inl _ : TT), (Sum.inl _ : TT), (Sum.inl _ : TT), (Sum.inl _ : TT), (Sum.inl _ : TT)] (by kernel_rfl) (by kernel_rfl) (fun _ _ _ _ _ h => h) rfl
    simp only [List.take_succ_cons, List.take_zero, List.drop_succ_cons, List.drop_zero]
    iterate 2 (apply rel_isS; (intro W hW hf; have hx1 := C1.out W hW; go_simp; first | exact ⟨StayS.refl _ _, rfl⟩ | rfl); simp only [Act.put, List.setIfInBounds_toArray, List.set_cons_succ, List.set_cons_zero])
    apply rel_isS
    · intro W hW hf
      exact rel_callS hW rfl (by go_simp <;> first | rfl | exact ⟨rfl, rfl⟩ | exact ⟨rfl, rfl, rfl⟩) (B1.out W)
    simp only [Act.put, List.setIfInBounds_toArray, List.set_cons_succ, List.set_cons_zero]
    iterate 2 (apply rel_isS; (intro W hW hf; have hx2 := C2.out W hW; go_simp; first | exact ⟨StayS.refl _ _, rfl⟩ | rfl); simp only [Act.put, List.setIfInBounds_toArray, List.set_cons_succ, List.set_cons_zero])
    apply rel_isS
    · intro W hW hf
      exact rel_callS hW rfl (by go_simp <;> first | rfl | exact ⟨rfl, rfl⟩ | exact ⟨rfl, rfl, rfl⟩) (B2.out W)
    simp only [Act.put, List.setIfInBounds_toArray, List.set_cons_succ, List.set_cons_zero]
    iterate 2 (apply rel_isS; (intro W hW hf; go_simp; first | exact ⟨StayS.refl _ _, rfl⟩ | rfl); simp only [Act.put, List.setIfInBounds_toArray, List.set_cons_succ, List.set_cons_zero])
    refine rel_endS ?_
    intro W hW hf
    try simp only [Act.put, List.setIfInBounds_toArray, List.set_cons_succ, List.set_cons_zero]
    refine wpList_nil ?_
    have HW := Lib.hid (Hb2.out.trans (hW.mono Hb2.out.size))
    clear hW hf
    have m1 := M1.out; have m2 := M2.out; have v1 := V1.out; have v2 := V2.out; have r1 := R1.out
    cases ma <;> cases mb <;> cases va <;> cases vb
    all_goals
      go_wp2_with fail
      go_ret
      exact ⟨by rw [Hd.out]; simp, HW.out⟩
  · have d2 : (ao != bo) = true := by rw [bne_iff_ne]; exact ho
    have Hd : Hid (dpd ⟨at_, ak, ao⟩ ⟨bt, bk, bo⟩ = false) := Lib.hid (by simp [dpd, ht, ho])
    clear ht ho
    go_enter Try.func31, Try.ntmps31
    go_wp2_with fail
    go_ret
    exact ⟨by rw [Hd.out]; rfl, ((Below.refl _ _).alloc (Nat.le_refl _) _).alloc (by simp) _⟩
end Go.Proofs.Ytaalinhkikmfaaa
