/- code.Check of two plain codes. -/
import Derived.Test.YtbmpjphemjponaaVl
set_option linter.unusedSimpArgs false
set_option linter.unusedVariables false
namespace Go.Proofs.Ytbmpjphemjponaa
open Go.RowKit

set_option maxRecDepth 100000 in
theorem index_nil (c : Nat) (f : Value) (w : World) : Calls Try.prog 85 #[.slice none 0 c, f] w fun e w' => e = .returned (.int .i64 (-1)) ∧ w' = w := by
  go_enter Try.func85, Try.ntmps85
  go_wp2_with fail
  go_loopw [8] (fun iv wr => iv = .int .i64 0 ∧ wr = w) (fun iv _ => 0)
  case atStart => exact ⟨rfl, rfl⟩
  case round =>
    obtain ⟨rfl, rfl⟩ := hrel
    go_wp2_with fail
    go_ret
    exact ⟨rfl, rfl⟩
set_option maxRecDepth 100000 in
theorem contains_nil (c : Nat) (f : Value) (w : World) : Calls Try.prog 72 #[.slice none 0 c, f] w fun e w' => e = .returned (.bool false) ∧ w' = w := by
  go_enter Try.func72, Try.ntmps72
  go_wp2_with fail
  refine (index_nil _ _ _).mono ?_
  rintro e w1 ⟨rfl, rfl⟩
  go_wp2_with fail
  go_ret
  exact ⟨rfl, rfl⟩
/-- a code of one empty body. -/
def cd1 : Cd := ⟨[], 0, [Bd.zero]⟩
def c1v (g : Nat) : Value := .agg #[.slice none 0 0, .int .i64 0, .slice (some ⟨g, 0, none⟩) 1 1]
def One1 (w : World) (g : Nat) : Prop := w.heap[g]? = some (.cells #[.slice none 0 0, .int .i64 0, .slice none 0 0] 57 (0, 0))
theorem One1.below {w w' : World} {g : Nat} (h : One1 w g) (hb : Below w.heap.size w w') : One1 w' g := (hb.block g (lt_blk h)).trans h
theorem One1.at {w : World} {g : Nat} (h : One1 w g) : BdsAt w w.heap.size (some ⟨g, 0, none⟩, 1) [Bd.zero] := by
  refine ⟨fun i hi => ?_, ⟨fun h => (by cases h), Nat.le_refl _⟩⟩
  obtain rfl : i = 0 := by simp at hi; omega
  refine ⟨g, 0, [.slice none 0 0, .int .i64 0, .slice none 0 0], rfl, lt_blk h, rfl, fun j hj => ?_, (none, 0), (none, 0), rfl, ?_, ?_⟩
  · rw [cell_blk h]
    have : j = 0 ∨ j = 1 ∨ j = 2 := by omega
    rcases this with rfl | rfl | rfl <;> rfl
  · exact ⟨fun i hi => absurd hi (Nat.not_lt_zero _), fun _ => rfl, Nat.le_refl _⟩
  · exact ⟨fun i hi => absurd hi (Nat.not_lt_zero _), fun _ => rfl, Nat.le_refl _⟩
set_option maxRecDepth 100000 in
set_option maxHeartbeats 1000000 in
theorem fits1 (g : Nat) (w : World) (h : One1 w g) : Calls Try.prog 53 #[c1v g] w fun e w' => e = .returned (.bool true) ∧ Below w.heap.size w w' := by
  have H := Lib.hid h
  clear h
  unfold c1v
  go_enter Try.func53, Try.ntmps53
  go_upto_region 1 with (fail)
  have hb := below_alloc w (.cells #[.slice none 0 0, .int .i64 0, .slice (some ⟨g, 0, none⟩) 1 1] 25)
  have b0 := heap_alloc_new w (.cells #[.slice none 0 0, .int .i64 0, .slice (some ⟨g, 0, none⟩) 1 1] 25)
  generalize w.alloc (.cells #[.slice none 0 0, .int .i64 0, .slice (some ⟨g, 0, none⟩) 1 1] 25) = w0 at *
  have c0 : w0.cell? ⟨w.heap.size, 0, none⟩ = some (.slice none 0 0) := by rw [cell_blk b0]; rfl
  have c1 : w0.cell? ⟨w.heap.size, 1, none⟩ = some (.int .i64 0) := by rw [cell_blk b0]; rfl
  have c2 : w0.cell? ⟨w.heap.size, 2, none⟩ = some (.slice (some ⟨g, 0, none⟩) 1 1) := by rw [cell_blk b0]; rfl
  have HB := Lib.hid hb
  clear hb b0
  go_wp2_with fail
  refine (contains_nil _ _ _).mono ?_
  rintro e w1 ⟨rfl, rfl⟩
  go_wp2_with fail
  clear c0 c1 c2
  go_loopw [23] (fun iv wr => ∃ k : Nat, k ≤ 1 ∧ iv = .int .i64 k ∧ Below w.heap.size w wr) (fun iv _ => 1 - (intOf iv).toNat)
  case atStart => exact ⟨0, by omega, rfl, HB.out⟩
  case round =>
    obtain ⟨k, hk, rfl, hb⟩ := hrel
    have Hb := Lib.hid hb
    clear hb
    by_cases hlt : k < 1
    · obtain rfl : k = 0 := by omega
      have H2 := Lib.hid (H.out.below Hb.out)
      have x0 : wr.cell? ⟨g, 0, none⟩ = some (.slice none 0 0) := by rw [cell_blk H2.out]; rfl
      have x1 : wr.cell? ⟨g, 1, none⟩ = some (.int .i64 0) := by rw [cell_blk H2.out]; rfl
      have x2 : wr.cell? ⟨g, 2, none⟩ = some (.slice none 0 0) := by rw [cell_blk H2.out]; rfl
      go_upto_region 6 with (fail)
      clear x0 x1 x2
      have ba := below_alloc wr (.cells #[.slice none 0 0, .int .i64 0, .slice none 0 0] 57)
      have b5 := heap_alloc_new wr (.cells #[.slice none 0 0, .int .i64 0, .slice none 0 0] 57)
      generalize wr.alloc (.cells #[.slice none 0 0, .int .i64 0, .slice none 0 0] 57) = wa at *
      have c0 : wa.cell? ⟨wr.heap.size, 0, none⟩ = some (.slice none 0 0) := by rw [cell_blk b5]; rfl
      have c1 : wa.cell? ⟨wr.heap.size, 1, none⟩ = some (.int .i64 0) := by rw [cell_blk b5]; rfl
      have c2 : wa.cell? ⟨wr.heap.size, 2, none⟩ = some (.slice none 0 0) := by rw [cell_blk b5]; rfl
      have Ha := Lib.hid (Hb.out.trans (ba.mono Hb.out.size))
      clear ba b5
      go_wp2_with fail
      refine (contains_nil _ _ _).mono ?_
      rintro e w1 ⟨rfl, rfl⟩
      go_wp2_with fail
      go_loopw [43] (fun iv wi => iv = .int .i64 0 ∧ Below w.heap.size w wi) (fun iv _ => 0)
      case atStart => exact ⟨rfl, Ha.out⟩
      case round =>
        obtain ⟨rfl, hbi⟩ := hrel
        have Hbi := Lib.hid hbi
        clear hbi
        go_wp2_with fail
        go_roundw
        case rel => exact ⟨1, by omega, by go_num, Hbi.out⟩
        case measure => simp [intOf]
    · obtain rfl : k = 1 := by omega
      go_wp2_with fail
      go_ret
      exact ⟨rfl, Hb.out⟩
set_option maxRecDepth 100000 in
set_option maxHeartbeats 1000000 in
theorem nodes1 (g : Nat) (f : Value) (w : World) (h : One1 w g) : Calls Try.prog 54 #[c1v g, f] w fun e w' => e = .returned (.bool true) ∧ Below w.heap.size w w' := by
  have H := Lib.hid h
  clear h
  unfold c1v
  go_enter Try.func54, Try.ntmps54
  go_upto_region 1 with (fail)
  have hb := below_alloc w (.cells #[.slice none 0 0, .int .i64 0, .slice (some ⟨g, 0, none⟩) 1 1] 25)
  have b0 := heap_alloc_new w (.cells #[.slice none 0 0, .int .i64 0, .slice (some ⟨g, 0, none⟩) 1 1] 25)
  generalize w.alloc (.cells #[.slice none 0 0, .int .i64 0, .slice (some ⟨g, 0, none⟩) 1 1] 25) = w0 at *
  have c2 : w0.cell? ⟨w.heap.size, 2, none⟩ = some (.slice (some ⟨g, 0, none⟩) 1 1) := by rw [cell_blk b0]; rfl
  have HB := Lib.hid hb
  clear hb b0
  go_wp2_with fail
  clear c2
  go_loopw [12] (fun iv wr => ∃ k : Nat, k ≤ 1 ∧ iv = .int .i64 k ∧ Below w.heap.size w wr) (fun iv _ => 1 - (intOf iv).toNat)
  case atStart => exact ⟨0, by omega, rfl, HB.out⟩
  case round =>
    obtain ⟨k, hk, rfl, hb⟩ := hrel
    have Hb := Lib.hid hb
    clear hb
    by_cases hlt : k < 1
    · obtain rfl : k = 0 := by omega
      have H2 := Lib.hid (H.out.below Hb.out)
      have x0 : wr.cell? ⟨g, 0, none⟩ = some (.slice none 0 0) := by rw [cell_blk H2.out]; rfl
      have x1 : wr.cell? ⟨g, 1, none⟩ = some (.int .i64 0) := by rw [cell_blk H2.out]; rfl
      have x2 : wr.cell? ⟨g, 2, none⟩ = some (.slice none 0 0) := by rw [cell_blk H2.out]; rfl
      go_upto_region 4 with (fail)
      clear x0 x1 x2
      have ba := below_alloc wr (.cells #[.slice none 0 0, .int .i64 0, .slice none 0 0] 57)
      have b5 := heap_alloc_new wr (.cells #[.slice none 0 0, .int .i64 0, .slice none 0 0] 57)
      generalize wr.alloc (.cells #[.slice none 0 0, .int .i64 0, .slice none 0 0] 57) = wa at *
      have c2 : wa.cell? ⟨wr.heap.size, 2, none⟩ = some (.slice none 0 0) := by rw [cell_blk b5]; rfl
      have Ha := Lib.hid (Hb.out.trans (ba.mono Hb.out.size))
      clear ba b5
      go_wp2_with fail
      go_loopw [19] (fun iv wi => iv = .int .i64 0 ∧ Below w.heap.size w wi) (fun iv _ => 0)
      case atStart => exact ⟨rfl, Ha.out⟩
      case round =>
        obtain ⟨rfl, hbi⟩ := hrel
        have Hbi := Lib.hid hbi
        clear hbi
        go_wp2_with fail
        go_roundw
        case rel => exact ⟨1, by omega, by go_num, Hbi.out⟩
        case measure => simp [intOf]
    · obtain rfl : k = 1 := by omega
      go_wp2_with fail
      go_ret
      exact ⟨rfl, Hb.out⟩
set_option maxRecDepth 100000 in
set_option maxHeartbeats 1000000 in
theorem check1 (g : Nat) (w : World) (h : One1 w g) : Calls Try.prog 21 #[c1v g] w fun e w' => e = .returned (.int .i64 0) ∧ Below w.heap.size w w' := by
  have H := Lib.hid h
  clear h
  unfold c1v
  go_enter Try.func21, Try.ntmps21
  go_upto_region 1 with (fail)
  have hb := below_alloc w (.cells #[.slice none 0 0, .int .i64 0, .slice (some ⟨g, 0, none⟩) 1 1] 25)
  have b0 := heap_alloc_new w (.cells #[.slice none 0 0, .int .i64 0, .slice (some ⟨g, 0, none⟩) 1 1] 25)
  generalize w.alloc (.cells #[.slice none 0 0, .int .i64 0, .slice (some ⟨g, 0, none⟩) 1 1] 25) = w0 at *
  have T : Hid (∀ W, Below w0.heap.size w0 W → W.cell? ⟨w.heap.size, 0, none⟩ = some (.slice none 0 0) ∧ W.cell? ⟨w.heap.size, 1, none⟩ = some (.int .i64 0) ∧ W.cell? ⟨w.heap.size, 2, none⟩ = some (.slice (some ⟨g, 0, none⟩) 1 1)) := Lib.hid (fun W hW => by
    have e := (hW.block _ (lt_blk b0)).trans b0
    exact ⟨by rw [cell_blk e]; rfl, by rw [cell_blk e]; rfl, by rw [cell_blk e]; rfl⟩)
  have HB := Lib.hid hb
  clear hb b0
  obtain ⟨c0, c1, c2⟩ := T.out w0 (Below.refl _ _)
  go_wp2_with fail
  have H0 := H.out.below HB.out
  refine (code_long cd1 ⟨by decide, by decide, fun i hi => by obtain rfl : i = 0 := (by simp [cd1] at hi; omega); exact ⟨by decide, by decide, fun i hi => absurd hi (Nat.not_lt_zero _)⟩⟩ (none, 0) (some ⟨g, 0, none⟩, 1) w0.heap.size w0 H0.at (Nat.le_refl _)).mono ?_
  rintro e w1 ⟨rfl, hb1⟩
  rw [show cdLong cd1 = false by decide]
  clear c0 c1 c2 H0
  have T1 := Lib.hid hb1
  obtain ⟨c0, c1, c2⟩ := T.out w1 hb1
  clear hb1
  go_wp2_with fail
  refine (fits1 g w1 (H.out.below (HB.out.trans (T1.out.mono HB.out.size)))).mono ?_
  rintro e w2 ⟨rfl, hb2⟩
  clear c0 c1 c2
  have T2 := Lib.hid (T1.out.trans (hb2.mono T1.out.size))
  clear hb2
  obtain ⟨c0, c1, c2⟩ := T.out w2 T2.out
  go_wp2_with fail
  refine (nodes1 g _ w2 (H.out.below (HB.out.trans (T2.out.mono HB.out.size)))).mono ?_
  rintro e w3 ⟨rfl, hb3⟩
  clear c0 c1 c2
  have T3 := Lib.hid (T2.out.trans (hb3.mono T2.out.size))
  clear hb3
  obtain ⟨c0, c1, c2⟩ := T.out w3 T3.out
  go_wp2_with fail
  refine (nodes1 g _ w3 (H.out.below (HB.out.trans (T3.out.mono HB.out.size)))).mono ?_
  rintro e w4 ⟨rfl, hb4⟩
  clear c0 c1 c2
  have T4 := Lib.hid (HB.out.trans ((T3.out.trans (hb4.mono T3.out.size)).mono HB.out.size))
  clear hb4
  go_wp2_with fail
  go_ret
  exact ⟨rfl, T4.out⟩
set_option maxRecDepth 100000 in
set_option maxHeartbeats 1000000 in
theorem check0 (w : World) : Calls Try.prog 21 #[.agg #[.slice none 0 0, .int .i64 0, .slice none 0 0]] w fun e w' => e = .returned (.int .i64 3) ∧ Below w.heap.size w w' := by
  go_enter Try.func21, Try.ntmps21
  go_upto_region 1 with (fail)
  have hb := below_alloc w (.cells #[.slice none 0 0, .int .i64 0, .slice none 0 0] 25)
  have b0 := heap_alloc_new w (.cells #[.slice none 0 0, .int .i64 0, .slice none 0 0] 25)
  generalize w.alloc (.cells #[.slice none 0 0, .int .i64 0, .slice none 0 0] 25) = w0 at *
  have c0 : w0.cell? ⟨w.heap.size, 0, none⟩ = some (.slice none 0 0) := by rw [cell_blk b0]; rfl
  have c1 : w0.cell? ⟨w.heap.size, 1, none⟩ = some (.int .i64 0) := by rw [cell_blk b0]; rfl
  have c2 : w0.cell? ⟨w.heap.size, 2, none⟩ = some (.slice none 0 0) := by rw [cell_blk b0]; rfl
  have HB := Lib.hid hb
  clear hb b0
  go_wp2_with fail
  refine (code_long ⟨[], 0, []⟩ ⟨by decide, by decide, fun i hi => absurd hi (Nat.not_lt_zero _)⟩ (none, 0) (none, 0) w0.heap.size w0 ⟨fun i hi => absurd hi (Nat.not_lt_zero _), fun _ => rfl, Nat.le_refl _⟩ (Nat.le_refl _)).mono ?_
  rintro e w1 ⟨rfl, hb1⟩
  rw [show cdLong ⟨[], 0, []⟩ = true by decide]
  have T1 := Lib.hid (HB.out.trans (hb1.mono HB.out.size))
  clear c0 c1 c2 hb1
  go_wp2_with fail
  go_ret
  exact ⟨rfl, T1.out⟩
end Go.Proofs.Ytbmpjphemjponaa
