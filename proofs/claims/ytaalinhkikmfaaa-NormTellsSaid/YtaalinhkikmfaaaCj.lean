/- the same numbers, the same lists of numbers. -/
import Derived.Test.YtaalinhkikmfaaaMg5
import Derived.Test.YtaalinhkikmfaaaIn
set_option linter.unusedSimpArgs false
set_option linter.unusedVariables false
namespace Go.Proofs.Ytaalinhkikmfaaa
open Go.RowKit

set_option maxRecDepth 100000 in
set_option maxHeartbeats 4000000 in
theorem same_lists (m n : Nat) (hm : m ≤ 4611686018427387904) (hn : n ≤ 4611686018427387904) (f f' : Nat → Nat → Nat) (hf : ∀ i, i < m → ∀ t, t < n → f i t = f' i t) (A A' : Option Addr) (c c' B : Nat) (w : World) (hA : Clk w B A m n f) (hA' : Clk w B A' m n f') (hB : B ≤ w.heap.size) :
    Calls Try.prog 19 #[.slice A m c, .slice A' m c'] w fun e w' => e = .returned (.bool true) ∧ Below w.heap.size w w' := by
  have HA := Lib.hid hA; have HA' := Lib.hid hA'; have HF := Lib.hid hf
  clear hA hA' hf
  go_enter Try.func19, Try.ntmps19
  go_wp2_with fail
  go_loopw [5] (fun i wr => ∃ k : Nat, k ≤ m ∧ i = .int .i64 k ∧ Below w.heap.size w wr) (fun i _ => m - (intOf i).toNat)
  case atStart => exact ⟨0, by omega, rfl, Below.refl _ _⟩
  case round =>
    obtain ⟨k, hk, rfl, hb⟩ := hrel
    have Hb := Lib.hid hb
    clear hb
    by_cases hlt : k < m
    · obtain ⟨b, o, bi, oi, ci, rfl, h0, hi0, h1, h3⟩ := HA.out k hlt
      obtain ⟨b', o', bi', oi', ci', rfl, h0', hi0', h2, h4⟩ := HA'.out k hlt
      have T : Hid (∀ W, Below wr.heap.size wr W → W.cell? ⟨b, o + k, none⟩ = some (.slice (some ⟨bi, oi, none⟩) n ci) ∧ W.cell? ⟨b', o' + k, none⟩ = some (.slice (some ⟨bi', oi', none⟩) n ci')) := Lib.hid (fun W hW => by
        have hW := Hb.out.trans (hW.mono Hb.out.size)
        exact ⟨(hW.cell (p := ⟨b, o + k, none⟩) (Nat.lt_of_lt_of_le h0 hB)).trans h1, (hW.cell (p := ⟨b', o' + k, none⟩) (Nat.lt_of_lt_of_le h0' hB)).trans h2⟩)
      have S : Hid (∀ W, Below wr.heap.size wr W → Calls Try.prog 18 #[.slice (some ⟨bi, oi, none⟩) n ci, .slice (some ⟨bi', oi', none⟩) n ci'] W fun e w' => ∃ v, e = .returned v ∧ Below W.heap.size W w' ∧ ttHolds (.inl (.bool true)) v w') := Lib.hid (fun W hW => by
        have hX := Hb.out.trans (hW.mono Hb.out.size)
        exact (same_ints n hn (f k) _ _ ci ci' B W (fun t ht => ⟨bi, oi, rfl, hi0, (hX.cell (p := ⟨bi, oi + t, none⟩) (Nat.lt_of_lt_of_le hi0 hB)).trans (h3 t ht)⟩) (fun t ht => ⟨bi', oi', rfl, hi0', (hX.cell (p := ⟨bi', oi' + t, none⟩) (Nat.lt_of_lt_of_le hi0' hB)).trans (by rw [h4 t ht, HF.out k hlt t ht])⟩) (Nat.le_trans hB hX.size)).mono fun e W' ⟨h1, h2⟩ => ⟨_, h1, h2, rfl⟩)
      clear h1 h2 h3 h4
      go_upto_region 6 with (fail)
      apply wp_region_relH (H := []) 10 [(Sum.inl _ : TT), (Sum.inl _ : TT), (Sum.inl _ : TT), (Sum.inl _ : TT), (Sum.inl _ : TT), (Sum.inl _ : TT), (Sum.inl _ : TT), (Sum.inl _ : TT), (Sum.inl _ : TT), (Sum.inl _ : TT)] (by kernel_rfl) (by kernel_rfl) (fun _ _ _ _ _ h => h) rfl
      simp only [List.take_succ_cons, List.take_zero, List.drop_succ_cons, List.drop_zero]
      iterate 8 (apply rel_isS; (intro W hW hf; obtain ⟨hx1, hx2⟩ := T.out W hW; go_simp; first | exact ⟨StayS.refl _ _, rfl⟩ | rfl); simp only [Act.put, List.setIfInBounds_toArray, List.set_cons_succ, List.set_cons_zero])
      apply rel_isS
      · intro W hW hf
        exact rel_callS hW rfl (by go_simp <;> first | rfl | exact ⟨rfl, rfl⟩ | exact ⟨rfl, rfl, rfl⟩) (S.out W hW)
      simp only [Act.put, List.setIfInBounds_toArray, List.set_cons_succ, List.set_cons_zero]
      iterate 1 (apply rel_isS; (intro W hW hf; go_simp; first | exact ⟨StayS.refl _ _, rfl⟩ | rfl); simp only [Act.put, List.setIfInBounds_toArray, List.set_cons_succ, List.set_cons_zero])
      refine rel_endS ?_
      intro W hW hf
      try simp only [Act.put, List.setIfInBounds_toArray, List.set_cons_succ, List.set_cons_zero]
      refine wpList_nil ?_
      have HW := Lib.hid (Hb.out.trans (hW.mono Hb.out.size))
      clear hW hf
      go_wp2_with fail
      go_roundw
      case rel => exact ⟨k + 1, by omega, by go_num, HW.out⟩
      case measure => simp [intOf]; omega
    · obtain rfl : k = m := by omega
      go_wp2_with fail
      go_ret
      exact ⟨rfl, Hb.out⟩
end Go.Proofs.Ytaalinhkikmfaaa
