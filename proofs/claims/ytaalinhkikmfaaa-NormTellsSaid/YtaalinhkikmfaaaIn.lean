/- assizekit.SameInts. -/
import Derived.Test.YtaalinhkikmfaaaMg10
set_option linter.unusedSimpArgs false
set_option linter.unusedVariables false
namespace Go.Proofs.Ytaalinhkikmfaaa
open Go.RowKit

def Ints (w : World) (B : Nat) (A : Option Addr) (n : Nat) (f : Nat → Nat) : Prop := ∀ t, t < n → ∃ b o, A = some ⟨b, o, none⟩ ∧ b < B ∧ w.cell? ⟨b, o + t, none⟩ = some (.int .i64 (f t : Nat))
theorem Ints.below {w w' : World} {B n : Nat} {A : Option Addr} {f : Nat → Nat} (h : Ints w B A n f) (hb : Below B w w') : Ints w' B A n f := fun t ht => by
  obtain ⟨b, o, e, h1, h2⟩ := h t ht
  exact ⟨b, o, e, h1, (hb.cell (p := ⟨b, o + t, none⟩) h1).trans h2⟩
set_option maxRecDepth 100000 in
set_option maxHeartbeats 4000000 in
theorem same_ints (n : Nat) (hn : n ≤ 4611686018427387904) (f : Nat → Nat) (A A' : Option Addr) (c c' B : Nat) (w : World) (hA : Ints w B A n f) (hA' : Ints w B A' n f) (hB : B ≤ w.heap.size) :
    Calls Try.prog 18 #[.slice A n c, .slice A' n c'] w fun e w' => e = .returned (.bool true) ∧ Below w.heap.size w w' := by
  have HA := Lib.hid hA; have HA' := Lib.hid hA'
  clear hA hA'
  go_enter Try.func18, Try.ntmps18
  go_wp2_with fail
  go_loopw [5] (fun i wr => ∃ k : Nat, k ≤ n ∧ i = .int .i64 k ∧ Below w.heap.size w wr) (fun i _ => n - (intOf i).toNat)
  case atStart => exact ⟨0, by omega, rfl, Below.refl _ _⟩
  case round =>
    obtain ⟨k, hk, rfl, hb⟩ := hrel
    have Hb := Lib.hid hb
    clear hb
    by_cases hlt : k < n
    · obtain ⟨b, o, rfl, h0, h1⟩ := HA.out k hlt
      obtain ⟨b', o', rfl, h0', h2⟩ := HA'.out k hlt
      have T : Hid (∀ W, Below wr.heap.size wr W → W.cell? ⟨b, o + k, none⟩ = some (.int .i64 (f k : Nat)) ∧ W.cell? ⟨b', o' + k, none⟩ = some (.int .i64 (f k : Nat))) := Lib.hid (fun W hW => by
        have hW := Hb.out.trans (hW.mono Hb.out.size)
        exact ⟨(hW.cell (p := ⟨b, o + k, none⟩) (Nat.lt_of_lt_of_le h0 hB)).trans h1, (hW.cell (p := ⟨b', o' + k, none⟩) (Nat.lt_of_lt_of_le h0' hB)).trans h2⟩)
      clear h1 h2
      generalize f k = z at *
      go_upto_region 6 with (fail)
      apply wp_region_relH (H := []) 9 [(Sum.inl _ : TT), (Sum.inl _ : TT), (Sum.inl _ : TT), (Sum.inl _ : TT), (Sum.inl _ : TT), (Sum.inl _ : TT), (Sum.inl _ : TT), (Sum.inl _ : TT), (Sum.inl _ : TT)] (by kernel_rfl) (by kernel_rfl) (fun _ _ _ _ _ h => h) rfl
      simp only [List.take_succ_cons, List.take_zero, List.drop_succ_cons, List.drop_zero]
      iterate 9 (apply rel_isS; (intro W hW hf; obtain ⟨hx1, hx2⟩ := T.out W hW; go_simp; first | exact ⟨StayS.refl _ _, rfl⟩ | rfl); simp only [Act.put, List.setIfInBounds_toArray, List.set_cons_succ, List.set_cons_zero])
      refine rel_endS ?_
      intro W hW hf
      try simp only [Act.put, List.setIfInBounds_toArray, List.set_cons_succ, List.set_cons_zero]
      refine wpList_nil ?_
      have HW := Lib.hid (Hb.out.trans (hW.mono Hb.out.size))
      clear hW hf
      go_wp2_with fail
      go_roundw
      case rel => exact ⟨k + 1, by omega, by go_num, HW.out⟩
      case measure => simp [intOf]; omega
    · obtain rfl : k = n := by omega
      go_wp2_with fail
      go_ret
      exact ⟨rfl, Hb.out⟩
end Go.Proofs.Ytaalinhkikmfaaa
