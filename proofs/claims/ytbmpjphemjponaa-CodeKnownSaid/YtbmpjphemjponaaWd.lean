/- code.fits. -/
import Derived.Test.YtbmpjphemjponaaWc
import Derived.Test.YtbmpjphemjponaaVd
set_option linter.unusedSimpArgs false
set_option linter.unusedVariables false
namespace Go.Proofs.Ytbmpjphemjponaa
open Go.RowKit

set_option maxRecDepth 100000 in
set_option maxHeartbeats 4000000 in
theorem fits_any (c : Cd) (s : CdSmall c) (hp : CdIn c) (p p2 : Slc) (B : Nat) (w : World) (h1 : VlsAt w B p c.shared) (h2 : BdsAt w B p2 c.bodies) (hB : B ≤ w.heap.size) :
    Calls Try.prog 53 #[cdv c p p2] w fun e w' => e = .returned (.bool (cdFit c)) ∧ Below w.heap.size w w' := by
  have HS := Lib.hid (fun W (h : Below w.heap.size w W) => contains_1 c.shared c.shared.length rfl s.1 (fun i hi => (hp.1 i hi).2.1) p B W (h1.below (h.mono hB)) (Nat.le_trans hB h.size))
  have H2 := Lib.hid h2
  have W1 := Lib.hid s.2.2
  have P1 := Lib.hid hp.2
  have L1 := s.1; have L2 := s.2.1
  have HR : Hid (cdFit c = (decide (0 ≤ c.mutexes) && (decide (c.mutexes ≤ 16) && (c.shared.all vOk && c.bodies.all (bdFit c.shared.length c.mutexes))))) := Lib.hid rfl
  clear h1 h2 s hp
  unfold cdv
  generalize cdFit c = res at *
  obtain ⟨sh, mt, bs⟩ := c
  obtain ⟨A, cp⟩ := p
  obtain ⟨A', cp'⟩ := p2
  dsimp only at *
  generalize sh.all vOk = qs at *
  generalize sh.length = n1 at *
  generalize hn2 : bs.length = n2 at *
  have N2 := Lib.hid hn2
  clear hn2
  go_enter Try.func53, Try.ntmps53
  go_upto_region 1 with (fail)
  obtain ⟨b0_, hb_⟩ := boxes1 w (.cells #[.slice A n1 cp, .int .i64 mt, .slice A' n2 cp'] 25)
  generalize w.alloc (.cells #[.slice A n1 cp, .int .i64 mt, .slice A' n2 cp'] 25) = w0 at *
  have T0b : Hid (∀ W, Below w0.heap.size w0 W → W.heap[w.heap.size]? = some (.cells #[.slice A n1 cp, .int .i64 mt, .slice A' n2 cp'] 25 (0, 0))) := Lib.hid (fun W hW => (hW.block _ (lt_blk b0_)).trans b0_)
  have T0 : Hid (∀ W, Below w0.heap.size w0 W → W.cell? ⟨w.heap.size, 0, none⟩ = some (.slice A n1 cp) ∧ W.cell? ⟨w.heap.size, 1, none⟩ = some (.int .i64 mt) ∧ W.cell? ⟨w.heap.size, 2, none⟩ = some (.slice A' n2 cp')) := Lib.hid (fun W hW => by have e := (hW.block _ (lt_blk b0_)).trans b0_; exact ⟨by rw [cell_blk e]; rfl, by rw [cell_blk e]; rfl, by rw [cell_blk e]; rfl⟩)
  have HB := Lib.hid hb_
  clear hb_ b0_
  obtain ⟨c0, c1, c2⟩ := T0.out w0 (Below.refl _ _)
  by_cases g1 : 0 ≤ mt
  rotate_left
  · have d1 : decide (mt < 0) = true := decide_eq_true (by omega)
    go_wp2_with fail
    go_ret
    exact ⟨ret_bool (by rw [HR.out, decide_eq_false (by omega)]; rfl), HB.out⟩
  have d1 : decide (mt < 0) = false := decide_eq_false (by omega)
  by_cases g2 : mt ≤ 16
  rotate_left
  · have d2 : decide (16 < mt) = true := decide_eq_true (by omega)
    go_wp2_with fail
    go_ret
    exact ⟨ret_bool (by rw [HR.out, decide_eq_false (show ¬ mt ≤ 16 by omega)]; simp), HB.out⟩
  have d2 : decide (16 < mt) = false := decide_eq_false (by omega)
  have HR1 : Hid (res = (qs && bs.all (bdFit n1 mt))) := Lib.hid (by rw [HR.out, decide_eq_true g1, decide_eq_true g2]; rfl)
  clear HR g1 g2
  go_wp2_with fail
  refine (HS.out _ HB.out).mono ?_
  rintro e w1 ⟨rfl, hb1⟩
  clear c0 c1 c2
  have G1 := Lib.hid hb1
  have HB1 := Lib.hid (HB.out.trans (hb1.mono HB.out.size))
  obtain ⟨c0, c1, c2⟩ := T0.out w1 hb1
  clear hb1 HS
  cases qs
  · go_wp2_with fail
    go_ret
    exact ⟨ret_bool (by rw [HR1.out]; rfl), HB1.out⟩
  have HR2 : Hid (res = bs.all (bdFit n1 mt)) := Lib.hid HR1.out
  clear HR1
  go_wp2_with fail
  clear c0 c1 c2 d1 d2
  go_loopw [23] (fun iv wr => ∃ k : Nat, k ≤ n2 ∧ iv = .int .i64 k ∧ Below w.heap.size w wr ∧ Below w0.heap.size w0 wr ∧ ∀ i, i < k → bdFit n1 mt (bs.getD i default) = true) (fun iv _ => n2 - (intOf iv).toNat)
  case atStart => exact ⟨0, by omega, rfl, HB1.out, G1.out, fun i hi => by omega⟩
  case round =>
    obtain ⟨wo, rfl⟩ : ∃ x, x = wr := ⟨wr, rfl⟩
    obtain ⟨k, hk, rfl, hb, hg, ho⟩ := hrel
    have Hb := Lib.hid hb
    have Hg := Lib.hid hg
    have Ho := Lib.hid ho
    clear hb hg ho
    by_cases hlt : k < n2
    · obtain ⟨b, o, ⟨P0, pc0⟩, ⟨Q1, qc1⟩, hA', hb1, x0, x1, x2, hv, hn⟩ := BdsAt.cells H2.out (show k < bs.length by rw [N2.out]; exact hlt)
      dsimp only at hA' x0 x2
      subst hA'
      have y0 := (Hb.out.cell (p := ⟨b, _, none⟩) (Nat.lt_of_lt_of_le hb1 hB)).trans x0
      have y1 := (Hb.out.cell (p := ⟨b, _, none⟩) (Nat.lt_of_lt_of_le hb1 hB)).trans x1
      have y2 := (Hb.out.cell (p := ⟨b, _, none⟩) (Nat.lt_of_lt_of_le hb1 hB)).trans x2
      have R1 := Lib.hid (W1.out k hlt)
      have R2 := Lib.hid (P1.out k hlt)
      have HI := Lib.hid hn
      have HV : Hid (∀ W, Below w.heap.size w W → Calls Try.prog 72 #[.slice P0 (bs.getD k default).locals.length pc0, .func (.func 75) #[] #[]] W fun e w' => e = .returned (.bool (!(bs.getD k default).locals.all vOk)) ∧ Below W.heap.size W w') := Lib.hid (fun W hW =>
        contains_2 (bs.getD k default).locals _ rfl R1.out.1 (fun i hi => (R2.out.1 i hi).2.1) (P0, pc0) B W (hv.below (hW.mono hB)) (Nat.le_trans hB hW.size))
      have HX : Hid (bdFit n1 mt (bs.getD k default) = false → res = false) := Lib.hid (fun h => by rw [HR2.out]; exact all_not (by rw [N2.out]; exact hlt) h)
      have HY : Hid (bdFit n1 mt (bs.getD k default) = true → ∀ i, i < k + 1 → bdFit n1 mt (bs.getD i default) = true) := Lib.hid (fun h i hi => by
        by_cases e : i = k
        · rw [e]; exact h
        · exact Ho.out i (by omega))
      have HD : Hid (bdFit n1 mt (bs.getD k default) = ((bs.getD k default).locals.all vOk && (decide (0 ≤ (bs.getD k default).stack) && (decide ((bs.getD k default).stack ≤ 64) && (bs.getD k default).nodes.all (ndFit n1 (bs.getD k default).locals.length (bs.getD k default).nodes.length mt))))) := Lib.hid rfl
      clear x0 x1 x2 hv hn
      generalize bdFit n1 mt (bs.getD k default) = rb at *
      generalize bs.getD k default = a at *
      obtain ⟨al, ks, an⟩ := a
      dsimp only at *
      have L3 : al.length ≤ 4000000 := R1.out.1
      have L4 : an.length ≤ 4000000 := R1.out.2.1
      have R1n : Hid (∀ j, j < an.length → (an.getD j default).code.length ≤ 4000000) := Lib.hid R1.out.2.2
      have R2n : Hid (∀ j, j < an.length → IsIn (an.getD j default).code) := Lib.hid R2.out.2
      clear R1 R2
      generalize al.all vOk = qv at *
      generalize al.length = l1 at *
      generalize hl3 : an.length = l3 at *
      have M3 := Lib.hid hl3
      clear hl3
      go_upto_region 6 with (fail)
      clear y0 y1 y2
      obtain ⟨b0_, hb_⟩ := boxes1 wo (.cells #[.slice P0 l1 pc0, .int .i64 ks, .slice Q1 l3 qc1] 57)
      generalize wo.alloc (.cells #[.slice P0 l1 pc0, .int .i64 ks, .slice Q1 l3 qc1] 57) = wa at *
      have Tab : Hid (∀ W, Below wa.heap.size wa W → W.heap[wo.heap.size]? = some (.cells #[.slice P0 l1 pc0, .int .i64 ks, .slice Q1 l3 qc1] 57 (0, 0))) := Lib.hid (fun W hW => (hW.block _ (lt_blk b0_)).trans b0_)
      have Ta : Hid (∀ W, Below wa.heap.size wa W → W.cell? ⟨wo.heap.size, 0, none⟩ = some (.slice P0 l1 pc0) ∧ W.cell? ⟨wo.heap.size, 1, none⟩ = some (.int .i64 ks) ∧ W.cell? ⟨wo.heap.size, 2, none⟩ = some (.slice Q1 l3 qc1)) := Lib.hid (fun W hW => by have e := (hW.block _ (lt_blk b0_)).trans b0_; exact ⟨by rw [cell_blk e]; rfl, by rw [cell_blk e]; rfl, by rw [cell_blk e]; rfl⟩)
      have Ba0 := Lib.hid hb_
      clear hb_ b0_
      have Ha := Lib.hid (Hb.out.trans (Ba0.out.mono Hb.out.size))
      have Ga := Lib.hid (Hg.out.trans (Ba0.out.mono Hg.out.size))
      obtain ⟨a0, a1, a2⟩ := Ta.out wa (Below.refl _ _)
      go_wp2_with fail
      refine (HV.out _ Ha.out).mono ?_
      rintro e w2 ⟨rfl, hb2⟩
      clear a0 a1 a2 HV
      obtain ⟨a0, a1, a2⟩ := Ta.out w2 hb2
      have Hc := Lib.hid (Ha.out.trans (hb2.mono Ha.out.size))
      have Gc := Lib.hid (Ga.out.trans (hb2.mono Ga.out.size))
      have Fc := Lib.hid hb2
      clear hb2
      cases qv
      · have HN := Lib.hid (HX.out (by rw [HD.out]; rfl))
        go_wp2_with fail
        go_ret
        exact ⟨ret_bool HN.out.symm, Hc.out⟩
      by_cases g1 : 0 ≤ ks
      rotate_left
      · have d1 : decide (ks < 0) = true := decide_eq_true (by omega)
        have HN := Lib.hid (HX.out (by rw [HD.out, decide_eq_false (by omega)]; rfl))
        go_wp2_with fail
        go_ret
        exact ⟨ret_bool HN.out.symm, Hc.out⟩
      have d1 : decide (ks < 0) = false := decide_eq_false (by omega)
      by_cases g2 : ks ≤ 64
      rotate_left
      · have d2 : decide (64 < ks) = true := decide_eq_true (by omega)
        have HN := Lib.hid (HX.out (by rw [HD.out, decide_eq_false (show ¬ ks ≤ 64 by omega)]; simp))
        go_wp2_with fail
        go_ret
        exact ⟨ret_bool HN.out.symm, Hc.out⟩
      have d2 : decide (64 < ks) = false := decide_eq_false (by omega)
      have HD2 : Hid (rb = an.all (ndFit n1 l1 l3 mt)) := Lib.hid (by rw [HD.out, decide_eq_true g1, decide_eq_true g2]; rfl)
      clear HD
      go_wp2_with fail
      clear a0 a1 a2 d1 d2
      go_loopw [43] (fun iv wi => ∃ j : Nat, j ≤ l3 ∧ iv = .int .i64 j ∧ Below w.heap.size w wi ∧ Below w0.heap.size w0 wi ∧ Below wa.heap.size wa wi ∧ ∀ i, i < j → ndFit n1 l1 l3 mt (an.getD i default) = true) (fun iv _ => l3 - (intOf iv).toNat)
      case atStart => exact ⟨0, by omega, rfl, Hc.out, Gc.out, Fc.out, fun i hi => by omega⟩
      case round =>
        obtain ⟨j, hj, rfl, hbi, hgi, hfi, hoi⟩ := hrel
        have Hbi := Lib.hid hbi; have Hgi := Lib.hid hgi; have Hfi := Lib.hid hfi; have Hoi := Lib.hid hoi
        clear hbi hgi hfi hoi
        by_cases hlt2 : j < l3
        · obtain ⟨b3, o3, ⟨e0, e1⟩, hP, hb3, x3, x4, x5, x6, x7, g0⟩ := NdsAt.cells HI.out (show j < an.length by rw [M3.out]; exact hlt2)
          dsimp only at hP x3
          subst hP
          have lb : b3 < w.heap.size := Nat.lt_of_lt_of_le hb3 hB
          have x3 := (Hbi.out.cell (p := ⟨b3, _, none⟩) lb).trans x3
          have x4 := (Hbi.out.cell (p := ⟨b3, _, none⟩) lb).trans x4
          have x5 := (Hbi.out.cell (p := ⟨b3, _, none⟩) lb).trans x5
          have x6 := (Hbi.out.cell (p := ⟨b3, _, none⟩) lb).trans x6
          have x7 := (Hbi.out.cell (p := ⟨b3, _, none⟩) lb).trans x7
          have HU : Hid (ndFit n1 l1 l3 mt (an.getD j default) = false → res = false) := Lib.hid (fun h => HX.out (by rw [HD2.out]; exact all_not (by rw [M3.out]; exact hlt2) h))
          have HV : Hid (ndFit n1 l1 l3 mt (an.getD j default) = true → ∀ i, i < j + 1 → ndFit n1 l1 l3 mt (an.getD i default) = true) := Lib.hid (fun h i hi => by
            by_cases e : i = j
            · rw [e]; exact h
            · exact Hoi.out i (by omega))
          have HE : Hid (ndFit n1 l1 l3 mt (an.getD j default) = ((an.getD j default).code.all (inOk n1 l1) && ndOk n1 l1 l3 mt (an.getD j default))) := Lib.hid rfl
          have HI2 : Hid (∀ W, Below w.heap.size w W → W.heap[w.heap.size]? = some (.cells #[.slice A n1 cp, .int .i64 mt, .slice (some ⟨b, o, none⟩) n2 cp'] 25 (0, 0)) → W.heap[wo.heap.size]? = some (.cells #[.slice P0 l1 pc0, .int .i64 ks, .slice (some ⟨b3, o3, none⟩) l3 qc1] 57 (0, 0)) →
              Calls Try.prog 76 #[.slice e0 (an.getD j default).code.length e1, .func (.func 77) #[] #[.pointer (some ⟨w.heap.size, 0, none⟩), .pointer (some ⟨wo.heap.size, 0, none⟩)]] W fun e w' => e = .returned (.bool (!(an.getD j default).code.all (inOk n1 l1))) ∧ Below W.heap.size W w') := Lib.hid (fun W hW k1 k2 =>
            contains_ins n1 l1 n2 l3 mt ks (A, cp) (some ⟨b, o, none⟩, cp') (P0, pc0) (some ⟨b3, o3, none⟩, qc1) w.heap.size wo.heap.size L1 L3 (an.getD j default).code _ rfl (R1n.out j hlt2) (fun i hi => (R2n.out j hlt2 i hi).2.2.1) (e0, e1) B W (g0.below (hW.mono hB)) (Nat.le_trans hB hW.size) k1 k2)
          have HN2 : Hid (∀ W, Calls Try.prog 79 #[.agg #[.slice A n1 cp, .int .i64 mt, .slice (some ⟨b, o, none⟩) n2 cp'], .agg #[.slice P0 l1 pc0, .int .i64 ks, .slice (some ⟨b3, o3, none⟩) l3 qc1], .agg #[.slice e0 (an.getD j default).code.length e1, .int .i64 (an.getD j default).kind, .int .i64 (an.getD j default).arg, .int .i64 (an.getD j default).next, .int .i64 (an.getD j default).alt]] W fun e w' => e = .returned (.bool (ndOk n1 l1 l3 mt (an.getD j default))) ∧ Below W.heap.size W w') := Lib.hid (fun W =>
            node_any n1 l1 n2 l3 mt ks (A, cp) (some ⟨b, o, none⟩, cp') (P0, pc0) (some ⟨b3, o3, none⟩, qc1) (e0, e1) (an.getD j default) L1 L3 L4 W)
          have L5 : (an.getD j default).code.length ≤ 4000000 := R1n.out j hlt2
          clear g0
          generalize ndFit n1 l1 l3 mt (an.getD j default) = rn at *
          generalize ndOk n1 l1 l3 mt (an.getD j default) = rk at *
          generalize (an.getD j default).code.all (inOk n1 l1) = ri at *
          generalize an.getD j default = nd at *
          obtain ⟨cl, n2', n3, n4, n5⟩ := nd
          dsimp only at *
          generalize cl.length = l5 at *
          go_upto_region 11 with (fail)
          clear x3 x4 x5 x6 x7
          obtain ⟨b0_, hb_⟩ := boxes1 wr (.cells #[.slice e0 l5 e1, .int .i64 n2', .int .i64 n3, .int .i64 n4, .int .i64 n5] 60)
          generalize wr.alloc (.cells #[.slice e0 l5 e1, .int .i64 n2', .int .i64 n3, .int .i64 n4, .int .i64 n5] 60) = wx at *
          have Tx : Hid (∀ W, Below wx.heap.size wx W → W.cell? ⟨wr.heap.size, 0, none⟩ = some (.slice e0 l5 e1) ∧ W.cell? ⟨wr.heap.size, 1, none⟩ = some (.int .i64 n2') ∧ W.cell? ⟨wr.heap.size, 2, none⟩ = some (.int .i64 n3) ∧ W.cell? ⟨wr.heap.size, 3, none⟩ = some (.int .i64 n4) ∧ W.cell? ⟨wr.heap.size, 4, none⟩ = some (.int .i64 n5)) := Lib.hid (fun W hW => by have e := (hW.block _ (lt_blk b0_)).trans b0_; exact ⟨by rw [cell_blk e]; rfl, by rw [cell_blk e]; rfl, by rw [cell_blk e]; rfl, by rw [cell_blk e]; rfl, by rw [cell_blk e]; rfl⟩)
          have Bx0 := Lib.hid hb_
          clear hb_ b0_
          have Hx := Lib.hid (Hbi.out.trans (Bx0.out.mono Hbi.out.size))
          have Gx := Lib.hid (Hgi.out.trans (Bx0.out.mono Hgi.out.size))
          have Fx := Lib.hid (Hfi.out.trans (Bx0.out.mono Hfi.out.size))
          obtain ⟨z0, z1, z2, z3, z4⟩ := Tx.out wx (Below.refl _ _)
          go_wp2_with fail
          refine (HI2.out _ Hx.out (T0b.out _ Gx.out) (Tab.out _ Fx.out)).mono ?_
          rintro e w3 ⟨rfl, hb3⟩
          clear z0 z1 z2 z3 z4 HI2
          obtain ⟨z0, z1, z2, z3, z4⟩ := Tx.out w3 hb3
          have Hy := Lib.hid (Hx.out.trans (hb3.mono Hx.out.size))
          have Gy := Lib.hid (Gx.out.trans (hb3.mono Gx.out.size))
          have Fy := Lib.hid (Fx.out.trans (hb3.mono Fx.out.size))
          clear hb3
          obtain ⟨c0, c1, c2⟩ := T0.out w3 Gy.out
          obtain ⟨a0, a1, a2⟩ := Ta.out w3 Fy.out
          cases ri
          · have HN := Lib.hid (HU.out (by rw [HE.out]; rfl))
            go_wp2_with fail
            go_ret
            exact ⟨ret_bool HN.out.symm, Hy.out⟩
          go_wp2_with fail
          refine (HN2.out _).mono ?_
          rintro e w4 ⟨rfl, hb4⟩
          clear z0 z1 z2 z3 z4 HN2 c0 c1 c2 a0 a1 a2
          have Hz := Lib.hid (Hy.out.trans (hb4.mono Hy.out.size))
          have Gz := Lib.hid (Gy.out.trans (hb4.mono Gy.out.size))
          have Fz := Lib.hid (Fy.out.trans (hb4.mono Fy.out.size))
          clear hb4
          cases rk
          · have HN := Lib.hid (HU.out (by rw [HE.out]; rfl))
            go_wp2_with fail
            go_ret
            exact ⟨ret_bool HN.out.symm, Hz.out⟩
          · have HN := Lib.hid (HV.out (by rw [HE.out]; rfl))
            go_wp2_with fail
            go_roundw
            case rel => exact ⟨j + 1, by omega, by go_num, Hz.out, Gz.out, Fz.out, HN.out⟩
            case measure => simp [intOf]; omega
        · obtain rfl : j = l3 := by omega
          have HN := Lib.hid (HY.out (by rw [HD2.out]; exact all_of (by rw [M3.out]; exact Hoi.out)))
          go_wp2_with fail
          go_roundw
          case rel => exact ⟨k + 1, by omega, by go_num, Hbi.out, Hgi.out, HN.out⟩
          case measure => simp [intOf]; omega
    · obtain rfl : k = n2 := by omega
      have HN : Hid (res = true) := Lib.hid (by rw [HR2.out]; exact all_of (by rw [N2.out]; exact Ho.out))
      go_wp2_with fail
      go_ret
      exact ⟨ret_bool HN.out.symm, Hb.out⟩
end Go.Proofs.Ytbmpjphemjponaa
