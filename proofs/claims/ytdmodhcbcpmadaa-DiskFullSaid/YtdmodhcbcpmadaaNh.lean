/- disk.Clone. -/
import Derived.Test.YtdmodhcbcpmadaaMz
set_option linter.unusedSimpArgs false
set_option linter.unusedVariables false
namespace Go.Proofs.Ytdmodhcbcpmadaa
open Go.RowKit

set_option maxRecDepth 100000 in
set_option maxHeartbeats 2000000 in
theorem clone_at {w : World} {p m : Nat} {d : Dk} (h : DiskAt w p m d) : Calls Try.prog 31 #[.pointer (some ⟨p, 0, none⟩)] w fun e w' => ∃ p' m', e = .returned (.pointer (some ⟨p', 0, none⟩)) ∧ DiskAt w' p' m' d ∧ Below w.heap.size w w' ∧ w.heap.size ≤ p' ∧ w.heap.size ≤ m' := by
  obtain ⟨vs, hm, ha⟩ := h.files
  have H := Lib.hid h
  have HM := Lib.hid hm; have HA := Lib.hid ha
  have hc := fun i => cell_blk h.own i
  have c0 := hc 0; have c1 := hc 1; have c2 := hc 2; have c3 := hc 3
  simp only [List.getElem?_toArray, List.getElem?_cons_succ, List.getElem?_cons_zero] at c0 c1 c2 c3
  have c1' : ∀ o, (w.alloc o).cell? ⟨p, 1, none⟩ = some (.map (some m)) := fun o => ((below_alloc w o).cell (p := ⟨p, 1, none⟩) (cell_lt c1)).trans c1
  clear h hm ha hc
  go_enter Try.func31, Try.ntmps31
  go_wp2_with fail
  refine (none_at H.out).mono ?_
  rintro e w1 ⟨rfl, rfl⟩
  go_wp2_with fail
  obtain ⟨hb1, hb2⟩ := boxes1 w1 (.cells #[.int .i64 d.size, .map (some m), .int .i64 d.left, .int .i64 d.writes] 55)
  generalize w1.alloc (.cells #[.int .i64 d.size, .map (some m), .int .i64 d.left, .int .i64 d.writes] 55) = w2 at *
  have HCL := Lib.hid (clone_files 9 HR m vs.length (.map (kd vs)) w2 (HM.out.at (hb2.block m HM.out.lt)))
  have HO := Lib.hid hb1; have HB := Lib.hid hb2
  clear hb1 hb2 c1' c0 c1 c2 c3
  refine HCL.out.mono ?_
  rintro e w3 ⟨rfl, h3, h4⟩
  have H3 := Lib.hid h3; have H4 := Lib.hid h4
  have HO3 := Lib.hid ((h4.block _ (lt_blk HO.out)).trans HO.out)
  have hc := cell_blk HO3.out 1
  simp only [List.getElem?_toArray, List.getElem?_cons_succ, List.getElem?_cons_zero] at hc
  have fz := fun i => free_blk HO3.out i
  have hc' := hc
  have hsz := HB.out.size
  have hlt := lt_blk HO.out
  clear h3 h4
  go_wp2_with fail
  go_ret
  have HB3 := HB.out.trans (H4.out.mono HB.out.size)
  refine ⟨_, _, rfl, ⟨set_blk HO3.out 1 (.map (some w2.heap.size)), H.out.ok, vs, MapN.at H3.out (Below.heap_setCell _ _ _ _ (by simp; omega)), HA.out.mono fun v f hv => (hv.below HB3).set hc' rfl⟩, HB3.setCell (Nat.le_refl _) _, Nat.le_refl _, hsz⟩
end Go.Proofs.Ytdmodhcbcpmadaa
