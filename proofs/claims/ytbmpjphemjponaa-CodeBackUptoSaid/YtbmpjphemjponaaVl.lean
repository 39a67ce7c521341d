/- code.long. -/
import Derived.Test.YtbmpjphemjponaaVi
import Derived.Test.YtbmpjphemjponaaWp
set_option linter.unusedSimpArgs false
set_option linter.unusedVariables false
namespace Go.Proofs.Ytbmpjphemjponaa
open Go.RowKit

theorem any_at {α : Type} [Inhabited α] {f : α → Bool} {l : List α} {i : Nat} (hi : i < l.length) (h : f (l.getD i default) = true) : l.any f = true := by
  rw [List.any_eq_true]
  refine ⟨l[i], List.getElem_mem hi, ?_⟩
  simpa [List.getD_eq_getElem?_getD, List.getElem?_eq_getElem hi] using h
theorem any_none {α : Type} [Inhabited α] {f : α → Bool} {l : List α} (h : ∀ i, i < l.length → f (l.getD i default) = false) : l.any f = false := by
  rw [List.any_eq_false]
  intro x hx
  obtain ⟨i, hi, rfl⟩ := List.getElem_of_mem hx
  have := h i hi
  simpa [List.getD_eq_getElem?_getD, List.getElem?_eq_getElem hi] using this
set_option maxRecDepth 100000 in
set_option maxHeartbeats 4000000 in
theorem code_long (c : Cd) (s : CdSmall c) (p p2 : Slc) (B : Nat) (w : World) (h2 : BdsAt w B p2 c.bodies) (hB : B ≤ w.heap.size) :
    Calls Try.prog 52 #[cdv c p p2] w fun e w' => e = .returned (.bool (cdLong c)) ∧ Below w.heap.size w w' := by
  have H2 := Lib.hid h2
  have W1 := Lib.hid s.2.2
  have L1 := s.1; have L2 := s.2.1
  have HR : Hid (cdLong c = (decide (c.bodies.length < 1) || (decide (16 < c.bodies.length) || (decide (32 < c.shared.length) || c.bodies.any bdLong)))) := Lib.hid rfl
  clear h2 s
  unfold cdv
  generalize cdLong c = res at *
  obtain ⟨sh, mt, bs⟩ := c
  obtain ⟨A, cp⟩ := p
  obtain ⟨A', cp'⟩ := p2
  dsimp only at *
  generalize hn1 : sh.length = n1 at *
  generalize hn2 : bs.length = n2 at *
  have N2 := Lib.hid hn2
  clear hn1 hn2
  go_enter Try.func52, Try.ntmps52
  go_upto_region 1 with (fail)
  have hb := below_alloc w (.cells #[.slice A n1 cp, .int .i64 mt, .slice A' n2 cp'] 25)
  have b0 := heap_alloc_new w (.cells #[.slice A n1 cp, .int .i64 mt, .slice A' n2 cp'] 25)
  generalize w.alloc (.cells #[.slice A n1 cp, .int .i64 mt, .slice A' n2 cp'] 25) = w0 at *
  have c0 : w0.cell? ⟨w.heap.size, 0, none⟩ = some (.slice A n1 cp) := by rw [cell_blk b0]; rfl
  have c2 : w0.cell? ⟨w.heap.size, 2, none⟩ = some (.slice A' n2 cp') := by rw [cell_blk b0]; rfl
  have HB := Lib.hid hb
  clear hb b0
  by_cases g1 : n2 < 1
  · have d1 : decide ((n2 : Int) < 1) = true := decide_eq_true (by omega)
    go_wp2_with fail
    go_ret
    exact ⟨ret_bool (by rw [HR.out, decide_eq_true g1]; rfl), HB.out⟩
  have d1 : decide ((n2 : Int) < 1) = false := decide_eq_false (by omega)
  by_cases g2 : 16 < n2
  · have d2 : decide ((16 : Int) < n2) = true := decide_eq_true (by omega)
    go_wp2_with fail
    go_ret
    exact ⟨ret_bool (by rw [HR.out, decide_eq_true g2]; simp), HB.out⟩
  have d2 : decide ((16 : Int) < n2) = false := decide_eq_false (by omega)
  by_cases g3 : 32 < n1
  · have d3 : decide ((32 : Int) < n1) = true := decide_eq_true (by omega)
    go_wp2_with fail
    go_ret
    exact ⟨ret_bool (by rw [HR.out, decide_eq_true g3]; simp), HB.out⟩
  have d3 : decide ((32 : Int) < n1) = false := decide_eq_false (by omega)
  have HR2 : Hid (res = bs.any bdLong) := Lib.hid (by rw [HR.out, decide_eq_false g1, decide_eq_false g2, decide_eq_false g3]; rfl)
  go_wp2_with fail
  clear c0 c2 d1 d2 d3
  go_loopw [26] (fun iv wr => ∃ k : Nat, k ≤ n2 ∧ iv = .int .i64 k ∧ Below w.heap.size w wr ∧ ∀ i, i < k → bdLong (bs.getD i default) = false) (fun iv _ => n2 - (intOf iv).toNat)
  case atStart => exact ⟨0, by omega, rfl, HB.out, fun i hi => by omega⟩
  case round =>
    obtain ⟨wo, rfl⟩ : ∃ x, x = wr := ⟨wr, rfl⟩
    obtain ⟨k, hk, rfl, hb, ho⟩ := hrel
    have Hb := Lib.hid hb
    have Ho := Lib.hid ho
    clear hb ho
    by_cases hlt : k < n2
    · obtain ⟨b, o, ⟨P0, pc0⟩, ⟨P1, pc1⟩, hA', hb1, x0, x1, x2, g0, g1⟩ := BdsAt.cells H2.out (show k < bs.length by rw [N2.out]; exact hlt)
      dsimp only at hA' x0 x2
      subst hA'
      have y0 := (Hb.out.cell (p := ⟨b, _, none⟩) (Nat.lt_of_lt_of_le hb1 hB)).trans x0
      have y1 := (Hb.out.cell (p := ⟨b, _, none⟩) (Nat.lt_of_lt_of_le hb1 hB)).trans x1
      have y2 := (Hb.out.cell (p := ⟨b, _, none⟩) (Nat.lt_of_lt_of_le hb1 hB)).trans x2
      have HI := Lib.hid g1
      have R1 := Lib.hid (W1.out k hlt)
      have HX : Hid (bdLong (bs.getD k default) = true → res = true) := Lib.hid (fun h => by rw [HR2.out]; exact any_at (by rw [N2.out]; exact hlt) h)
      have HY : Hid (bdLong (bs.getD k default) = false → ∀ i, i < k + 1 → bdLong (bs.getD i default) = false) := Lib.hid (fun h i hi => by
        by_cases e : i = k
        · rw [e]; exact h
        · exact Ho.out i (by omega))
      have HD : Hid (bdLong (bs.getD k default) = (decide (16 < (bs.getD k default).locals.length) || (decide (1024 < (bs.getD k default).nodes.length) || (bs.getD k default).nodes.any fun n => decide (8192 < n.code.length)))) := Lib.hid rfl
      clear x0 x1 x2 g0 g1
      generalize bdLong (bs.getD k default) = rb at *
      generalize bs.getD k default = a at *
      obtain ⟨al, ks, an⟩ := a
      dsimp only at *
      have L3 : al.length ≤ 4000000 := R1.out.1
      have L4 : an.length ≤ 4000000 := R1.out.2.1
      generalize hl1 : al.length = l1 at *
      generalize hl3 : an.length = l3 at *
      have M1 := Lib.hid hl1; have M3 := Lib.hid hl3
      clear hl1 hl3
      go_upto_region 6 with (fail)
      clear y0 y1 y2
      have ba := below_alloc wo (.cells #[.slice P0 l1 pc0, .int .i64 ks, .slice P1 l3 pc1] 57)
      have b5 := heap_alloc_new wo (.cells #[.slice P0 l1 pc0, .int .i64 ks, .slice P1 l3 pc1] 57)
      generalize wo.alloc (.cells #[.slice P0 l1 pc0, .int .i64 ks, .slice P1 l3 pc1] 57) = wa at *
      have c0 : wa.cell? ⟨wo.heap.size, 0, none⟩ = some (.slice P0 l1 pc0) := by rw [cell_blk b5]; rfl
      have c2 : wa.cell? ⟨wo.heap.size, 2, none⟩ = some (.slice P1 l3 pc1) := by rw [cell_blk b5]; rfl
      have Ha := Lib.hid (Hb.out.trans (ba.mono Hb.out.size))
      clear ba b5
      by_cases g1 : 16 < l1
      · have d1 : decide ((16 : Int) < l1) = true := decide_eq_true (by omega)
        have HN := Lib.hid (HX.out (by rw [HD.out, decide_eq_true g1]; rfl))
        go_wp2_with fail
        go_ret
        exact ⟨ret_bool (by rw [HN.out]), Ha.out⟩
      have d1 : decide ((16 : Int) < l1) = false := decide_eq_false (by omega)
      by_cases g2 : 1024 < l3
      · have d2 : decide ((1024 : Int) < l3) = true := decide_eq_true (by omega)
        have HN := Lib.hid (HX.out (by rw [HD.out, decide_eq_true g2]; simp))
        go_wp2_with fail
        go_ret
        exact ⟨ret_bool (by rw [HN.out]), Ha.out⟩
      have d2 : decide ((1024 : Int) < l3) = false := decide_eq_false (by omega)
      have HD2 : Hid (rb = an.any fun n => decide (8192 < n.code.length)) := Lib.hid (by rw [HD.out, decide_eq_false g1, decide_eq_false g2]; rfl)
      go_wp2_with fail
      clear c0 c2 d1 d2
      go_loopw [43] (fun iv wi => ∃ j : Nat, j ≤ l3 ∧ iv = .int .i64 j ∧ Below w.heap.size w wi ∧ ∀ i, i < j → decide (8192 < (an.getD i default).code.length) = false) (fun iv _ => l3 - (intOf iv).toNat)
      case atStart => exact ⟨0, by omega, rfl, Ha.out, fun i hi => by omega⟩
      case round =>
        obtain ⟨j, hj, rfl, hbi, hoi⟩ := hrel
        have Hbi := Lib.hid hbi
        have Hoi := Lib.hid hoi
        clear hbi hoi
        by_cases hlt2 : j < l3
        · obtain ⟨b3, o3, ⟨e0, e1⟩, hP, hb3, x3, x4, x5, x6, x7, g0⟩ := NdsAt.cells HI.out (show j < an.length by rw [M3.out]; exact hlt2)
          dsimp only at hP x3
          subst hP
          have lb : b3 < w.heap.size := Nat.lt_of_lt_of_le hb3 hB
          have x3 := (Hbi.out.cell (p := ⟨b3, _, none⟩) lb).trans x3
          have x4 := (Hbi.out.cell (p := ⟨b3, _, none⟩) lb).trans x4
          have x5 := (Hbi.out.cell (p := ⟨b3, _, none⟩) lb).trans x5
          have x6 := (Hbi.out.cell (p := ⟨b3, _, none⟩) lb).trans x6
          have x7 := (Hbi.out.cell (p := ⟨b3, _, none⟩) lb).trans x7
          have HU : Hid (8192 < (an.getD j default).code.length → res = true) := Lib.hid (fun h => HX.out (by rw [HD2.out]; exact any_at (by rw [M3.out]; exact hlt2) (decide_eq_true h)))
          have HV : Hid (¬ 8192 < (an.getD j default).code.length → ∀ i, i < j + 1 → decide (8192 < (an.getD i default).code.length) = false) := Lib.hid (fun h i hi => by
            by_cases e : i = j
            · rw [e]; exact decide_eq_false h
            · exact Hoi.out i (by omega))
          clear g0
          generalize an.getD j default = nd at *
          obtain ⟨cl, n2', n3, n4, n5⟩ := nd
          dsimp only at *
          generalize cl.length = l5 at *
          go_upto_region 11 with (fail)
          clear x3 x4 x5 x6 x7
          have ba := below_alloc wr (.cells #[.slice e0 l5 e1, .int .i64 n2', .int .i64 n3, .int .i64 n4, .int .i64 n5] 60)
          have x7 := heap_alloc_new wr (.cells #[.slice e0 l5 e1, .int .i64 n2', .int .i64 n3, .int .i64 n4, .int .i64 n5] 60)
          generalize wr.alloc (.cells #[.slice e0 l5 e1, .int .i64 n2', .int .i64 n3, .int .i64 n4, .int .i64 n5] 60) = wx at *
          have c7 : wx.cell? ⟨wr.heap.size, 0, none⟩ = some (.slice e0 l5 e1) := by rw [cell_blk x7]; rfl
          have Bx := Lib.hid (Hbi.out.trans (ba.mono Hbi.out.size))
          clear ba x7
          by_cases g1 : 8192 < l5
          · have d1 : decide ((8192 : Int) < l5) = true := decide_eq_true (by omega)
            have HN := Lib.hid (HU.out g1)
            go_wp2_with fail
            go_ret
            exact ⟨ret_bool (by rw [HN.out]), Bx.out⟩
          · have d1 : decide ((8192 : Int) < l5) = false := decide_eq_false (by omega)
            have HN := Lib.hid (HV.out g1)
            go_wp2_with fail
            go_roundw
            case rel => exact ⟨j + 1, by omega, by go_num, Bx.out, HN.out⟩
            case measure => simp [intOf]; omega
        · obtain rfl : j = l3 := by omega
          have HN := Lib.hid (HY.out (by rw [HD2.out]; exact any_none (f := fun n : Nd => decide (8192 < n.code.length)) (by rw [M3.out]; exact Hoi.out)))
          go_wp2_with fail
          go_roundw
          case rel => exact ⟨k + 1, by omega, by go_num, Hbi.out, HN.out⟩
          case measure => simp [intOf]; omega
    · obtain rfl : k = n2 := by omega
      have HN : Hid (res = false) := Lib.hid (by rw [HR2.out]; exact any_none (by rw [N2.out]; exact Ho.out))
      go_wp2_with fail
      go_ret
      exact ⟨ret_bool (by rw [HN.out]), Hb.out⟩
end Go.Proofs.Ytbmpjphemjponaa
