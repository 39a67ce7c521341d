/- code.nodes, code.Check. -/
import Derived.Test.YtbmpjphemjponaaWg
import Derived.Test.YtbmpjphemjponaaVl
set_option linter.unusedSimpArgs false
set_option linter.unusedVariables false
namespace Go.Proofs.Ytbmpjphemjponaa
open Go.RowKit

set_option maxRecDepth 100000 in
set_option maxHeartbeats 4000000 in
theorem nodes_1 (g1 : Nat) (f : Bd → Nd → Bool) (c : Cd) (s : CdSmall c) (p p2 : Slc) (B : Nat) (w : World) (h2 : BdsAt w B p2 c.bodies) (hB : B ≤ w.heap.size)
    (hf : ∀ W, Below w.heap.size w W → ∀ k, k < c.bodies.length → ∀ j, j < (c.bodies.getD k default).nodes.length → ∀ p q r, VlsAt W B p (c.bodies.getD k default).locals → InsAt W B r ((c.bodies.getD k default).nodes.getD j default).code →
      Calls Try.prog 55 #[bdv (c.bodies.getD k default) p q, ndv ((c.bodies.getD k default).nodes.getD j default) r, .pointer (some ⟨g1, 0, none⟩)] W fun e w' => e = .returned (.bool (f (c.bodies.getD k default) ((c.bodies.getD k default).nodes.getD j default))) ∧ Below W.heap.size W w') :
    Calls Try.prog 54 #[cdv c p p2, .func (.func 55) #[] #[.pointer (some ⟨g1, 0, none⟩)]] w fun e w' => e = .returned (.bool (allN f c.bodies)) ∧ Below w.heap.size w w' := by
  have HF := Lib.hid hf
  have H2 := Lib.hid h2
  have W1 := Lib.hid s.2.2
  have L1 := s.1; have L2 := s.2.1
  have HR : Hid (allN f c.bodies = c.bodies.all fun b => b.nodes.all fun n => f b n) := Lib.hid rfl
  clear h2 s hf
  unfold cdv
  generalize allN f c.bodies = res at *
  obtain ⟨sh, mt, bs⟩ := c
  obtain ⟨A, cp⟩ := p
  obtain ⟨A', cp'⟩ := p2
  dsimp only at *
  generalize sh.length = n1 at *
  generalize hn2 : bs.length = n2 at *
  have N2 := Lib.hid hn2
  clear hn2
  go_enter Try.func54, Try.ntmps54
  go_upto_region 1 with (fail)
  obtain ⟨b0_, hb_⟩ := boxes1 w (.cells #[.slice A n1 cp, .int .i64 mt, .slice A' n2 cp'] 25)
  generalize w.alloc (.cells #[.slice A n1 cp, .int .i64 mt, .slice A' n2 cp'] 25) = w0 at *
  have T0 : Hid (∀ W, Below w0.heap.size w0 W → W.cell? ⟨w.heap.size, 0, none⟩ = some (.slice A n1 cp) ∧ W.cell? ⟨w.heap.size, 1, none⟩ = some (.int .i64 mt) ∧ W.cell? ⟨w.heap.size, 2, none⟩ = some (.slice A' n2 cp')) := Lib.hid (fun W hW => by have e := (hW.block _ (lt_blk b0_)).trans b0_; exact ⟨by rw [cell_blk e]; rfl, by rw [cell_blk e]; rfl, by rw [cell_blk e]; rfl⟩)
  have HB := Lib.hid hb_
  clear hb_ b0_
  obtain ⟨-, -, c2⟩ := T0.out w0 (Below.refl _ _)
  go_wp2_with fail
  clear c2
  go_loopw [12] (fun iv wr => ∃ k : Nat, k ≤ n2 ∧ iv = .int .i64 k ∧ Below w.heap.size w wr ∧ ∀ i, i < k → (bs.getD i default).nodes.all (f (bs.getD i default)) = true) (fun iv _ => n2 - (intOf iv).toNat)
  case atStart => exact ⟨0, by omega, rfl, HB.out, fun i hi => by omega⟩
  case round =>
    obtain ⟨wo, rfl⟩ : ∃ x, x = wr := ⟨wr, rfl⟩
    obtain ⟨k, hk, rfl, hb, ho⟩ := hrel
    have Hb := Lib.hid hb
    have Ho := Lib.hid ho
    clear hb ho
    by_cases hlt : k < n2
    · obtain ⟨b, o, ⟨P0, pc0⟩, ⟨Q1, qc1⟩, hA', hb1, x0, x1, x2, hv, hn⟩ := BdsAt.cells H2.out (show k < bs.length by rw [N2.out]; exact hlt)
      dsimp only at hA' x0 x2
      subst hA'
      have y0 := (Hb.out.cell (p := ⟨b, _, none⟩) (Nat.lt_of_lt_of_le hb1 hB)).trans x0
      have y1 := (Hb.out.cell (p := ⟨b, _, none⟩) (Nat.lt_of_lt_of_le hb1 hB)).trans x1
      have y2 := (Hb.out.cell (p := ⟨b, _, none⟩) (Nat.lt_of_lt_of_le hb1 hB)).trans x2
      have R1 := Lib.hid (W1.out k hlt)
      have HI := Lib.hid hn
      have HX : Hid ((bs.getD k default).nodes.all (f (bs.getD k default)) = false → res = false) := Lib.hid (fun h => by rw [HR.out]; exact all_not (by rw [N2.out]; exact hlt) h)
      have HY : Hid ((bs.getD k default).nodes.all (f (bs.getD k default)) = true → ∀ i, i < k + 1 → (bs.getD i default).nodes.all (f (bs.getD i default)) = true) := Lib.hid (fun h i hi => by
        by_cases e : i = k
        · rw [e]; exact h
        · exact Ho.out i (by omega))
      have HF1 := Lib.hid (fun W (hW : Below w.heap.size w W) j hj r hr => HF.out W hW k hlt j hj (P0, pc0) (Q1, qc1) r (hv.below (hW.mono hB)) hr)
      clear x0 x1 x2 hv hn
      generalize bs.getD k default = a at *
      obtain ⟨al, ks, an⟩ := a
      have L4 : an.length ≤ 4000000 := R1.out.2.1
      have R1n : Hid (∀ j, j < an.length → (an.getD j default).code.length ≤ 4000000) := Lib.hid R1.out.2.2
      generalize hfa : f ⟨al, ks, an⟩ = fa at *
      clear hfa
      unfold bdv at HF1
      dsimp only at *
      generalize al.length = l1 at *
      generalize hl3 : an.length = l3 at *
      have M3 := Lib.hid hl3
      clear hl3 R1
      go_upto_region 4 with (fail)
      clear y0 y1 y2
      obtain ⟨b0_, hb_⟩ := boxes1 wo (.cells #[.slice P0 l1 pc0, .int .i64 ks, .slice Q1 l3 qc1] 57)
      generalize wo.alloc (.cells #[.slice P0 l1 pc0, .int .i64 ks, .slice Q1 l3 qc1] 57) = wa at *
      have Ta : Hid (∀ W, Below wa.heap.size wa W → W.cell? ⟨wo.heap.size, 0, none⟩ = some (.slice P0 l1 pc0) ∧ W.cell? ⟨wo.heap.size, 1, none⟩ = some (.int .i64 ks) ∧ W.cell? ⟨wo.heap.size, 2, none⟩ = some (.slice Q1 l3 qc1)) := Lib.hid (fun W hW => by have e := (hW.block _ (lt_blk b0_)).trans b0_; exact ⟨by rw [cell_blk e]; rfl, by rw [cell_blk e]; rfl, by rw [cell_blk e]; rfl⟩)
      have Ba0 := Lib.hid hb_
      clear hb_ b0_
      have Ha := Lib.hid (Hb.out.trans (Ba0.out.mono Hb.out.size))
      obtain ⟨a0, a1, a2⟩ := Ta.out wa (Below.refl _ _)
      go_wp2_with fail
      clear a0 a1 a2
      go_loopw [19] (fun iv wi => ∃ j : Nat, j ≤ l3 ∧ iv = .int .i64 j ∧ Below w.heap.size w wi ∧ Below wa.heap.size wa wi ∧ ∀ i, i < j → fa (an.getD i default) = true) (fun iv _ => l3 - (intOf iv).toNat)
      case atStart => exact ⟨0, by omega, rfl, Ha.out, Below.refl _ _, fun i hi => by omega⟩
      case round =>
        obtain ⟨j, hj, rfl, hbi, hfi, hoi⟩ := hrel
        have Hbi := Lib.hid hbi; have Hfi := Lib.hid hfi; have Hoi := Lib.hid hoi
        clear hbi hfi hoi
        by_cases hlt2 : j < l3
        · obtain ⟨b3, o3, ⟨e0, e1⟩, hP, hb3, x3, x4, x5, x6, x7, g0⟩ := NdsAt.cells HI.out (show j < an.length by rw [M3.out]; exact hlt2)
          dsimp only at hP x3
          have lb : b3 < w.heap.size := Nat.lt_of_lt_of_le hb3 hB
          have x3 := (Hbi.out.cell (p := ⟨b3, _, none⟩) lb).trans x3
          have x4 := (Hbi.out.cell (p := ⟨b3, _, none⟩) lb).trans x4
          have x5 := (Hbi.out.cell (p := ⟨b3, _, none⟩) lb).trans x5
          have x6 := (Hbi.out.cell (p := ⟨b3, _, none⟩) lb).trans x6
          have x7 := (Hbi.out.cell (p := ⟨b3, _, none⟩) lb).trans x7
          have HU : Hid (fa (an.getD j default) = false → res = false) := Lib.hid (fun h => HX.out (all_not (by rw [M3.out]; exact hlt2) h))
          have HV : Hid (fa (an.getD j default) = true → ∀ i, i < j + 1 → fa (an.getD i default) = true) := Lib.hid (fun h i hi => by
            by_cases e : i = j
            · rw [e]; exact h
            · exact Hoi.out i (by omega))
          have HC := Lib.hid (fun W (hW : Below w.heap.size w W) => HF1.out W hW j hlt2 (e0, e1) (g0.below (hW.mono hB)))
          have L5 : (an.getD j default).code.length ≤ 4000000 := R1n.out j hlt2
          clear g0
          subst hP
          unfold ndv at HC
          generalize fa (an.getD j default) = rn at *
          generalize an.getD j default = nd at *
          obtain ⟨cl, n2', n3, n4, n5⟩ := nd
          dsimp only at *
          generalize cl.length = l5 at *
          go_upto_region 7 with (fail)
          clear x3 x4 x5 x6 x7
          obtain ⟨b0_, hb_⟩ := boxes1 wr (.cells #[.slice e0 l5 e1, .int .i64 n2', .int .i64 n3, .int .i64 n4, .int .i64 n5] 60)
          generalize wr.alloc (.cells #[.slice e0 l5 e1, .int .i64 n2', .int .i64 n3, .int .i64 n4, .int .i64 n5] 60) = wx at *
          have Tx : Hid (∀ W, Below wx.heap.size wx W → W.cell? ⟨wr.heap.size, 0, none⟩ = some (.slice e0 l5 e1) ∧ W.cell? ⟨wr.heap.size, 1, none⟩ = some (.int .i64 n2') ∧ W.cell? ⟨wr.heap.size, 2, none⟩ = some (.int .i64 n3) ∧ W.cell? ⟨wr.heap.size, 3, none⟩ = some (.int .i64 n4) ∧ W.cell? ⟨wr.heap.size, 4, none⟩ = some (.int .i64 n5)) := Lib.hid (fun W hW => by have e := (hW.block _ (lt_blk b0_)).trans b0_; exact ⟨by rw [cell_blk e]; rfl, by rw [cell_blk e]; rfl, by rw [cell_blk e]; rfl, by rw [cell_blk e]; rfl, by rw [cell_blk e]; rfl⟩)
          have Bx0 := Lib.hid hb_
          clear hb_ b0_
          have Hx := Lib.hid (Hbi.out.trans (Bx0.out.mono Hbi.out.size))
          have Fx := Lib.hid (Hfi.out.trans (Bx0.out.mono Hfi.out.size))
          obtain ⟨z0, z1, z2, z3, z4⟩ := Tx.out wx (Below.refl _ _)
          obtain ⟨a0, a1, a2⟩ := Ta.out wx Fx.out
          go_wp2_with fail
          refine (HC.out _ Hx.out).mono ?_
          rintro e w3 ⟨rfl, hb3⟩
          clear z0 z1 z2 z3 z4 HC a0 a1 a2
          have Hy := Lib.hid (Hx.out.trans (hb3.mono Hx.out.size))
          have Fy := Lib.hid (Fx.out.trans (hb3.mono Fx.out.size))
          clear hb3
          cases rn
          · have HN := Lib.hid (HU.out rfl)
            go_wp2_with fail
            go_ret
            exact ⟨ret_bool HN.out.symm, Hy.out⟩
          · have HN := Lib.hid (HV.out (by trivial))
            go_wp2_with fail
            go_roundw
            case rel => exact ⟨j + 1, by omega, by go_num, Hy.out, Fy.out, HN.out⟩
            case measure => simp [intOf]; omega
        · obtain rfl : j = l3 := by omega
          have HN := Lib.hid (HY.out (all_of (by rw [M3.out]; exact Hoi.out)))
          go_wp2_with fail
          go_roundw
          case rel => exact ⟨k + 1, by omega, by go_num, Hbi.out, HN.out⟩
          case measure => simp [intOf]; omega
    · obtain rfl : k = n2 := by omega
      have HN : Hid (res = true) := Lib.hid (by rw [HR.out]; exact all_of (by rw [N2.out]; exact Ho.out))
      go_wp2_with fail
      go_ret
      exact ⟨ret_bool HN.out.symm, Hb.out⟩
set_option maxRecDepth 100000 in
set_option maxHeartbeats 4000000 in
theorem nodes_2 (g1 : Nat) (f : Bd → Nd → Bool) (c : Cd) (s : CdSmall c) (p p2 : Slc) (B : Nat) (w : World) (h2 : BdsAt w B p2 c.bodies) (hB : B ≤ w.heap.size)
    (hf : ∀ W, Below w.heap.size w W → ∀ k, k < c.bodies.length → ∀ j, j < (c.bodies.getD k default).nodes.length → ∀ p q r, VlsAt W B p (c.bodies.getD k default).locals → InsAt W B r ((c.bodies.getD k default).nodes.getD j default).code →
      Calls Try.prog 57 #[bdv (c.bodies.getD k default) p q, ndv ((c.bodies.getD k default).nodes.getD j default) r] W fun e w' => e = .returned (.bool (f (c.bodies.getD k default) ((c.bodies.getD k default).nodes.getD j default))) ∧ Below W.heap.size W w') :
    Calls Try.prog 54 #[cdv c p p2, .func (.func 57) #[] #[]] w fun e w' => e = .returned (.bool (allN f c.bodies)) ∧ Below w.heap.size w w' := by
  have HF := Lib.hid hf
  have H2 := Lib.hid h2
  have W1 := Lib.hid s.2.2
  have L1 := s.1; have L2 := s.2.1
  have HR : Hid (allN f c.bodies = c.bodies.all fun b => b.nodes.all fun n => f b n) := Lib.hid rfl
  clear h2 s hf
  unfold cdv
  generalize allN f c.bodies = res at *
  obtain ⟨sh, mt, bs⟩ := c
  obtain ⟨A, cp⟩ := p
  obtain ⟨A', cp'⟩ := p2
  dsimp only at *
  generalize sh.length = n1 at *
  generalize hn2 : bs.length = n2 at *
  have N2 := Lib.hid hn2
  clear hn2
  go_enter Try.func54, Try.ntmps54
  go_upto_region 1 with (fail)
  obtain ⟨b0_, hb_⟩ := boxes1 w (.cells #[.slice A n1 cp, .int .i64 mt, .slice A' n2 cp'] 25)
  generalize w.alloc (.cells #[.slice A n1 cp, .int .i64 mt, .slice A' n2 cp'] 25) = w0 at *
  have T0 : Hid (∀ W, Below w0.heap.size w0 W → W.cell? ⟨w.heap.size, 0, none⟩ = some (.slice A n1 cp) ∧ W.cell? ⟨w.heap.size, 1, none⟩ = some (.int .i64 mt) ∧ W.cell? ⟨w.heap.size, 2, none⟩ = some (.slice A' n2 cp')) := Lib.hid (fun W hW => by have e := (hW.block _ (lt_blk b0_)).trans b0_; exact ⟨by rw [cell_blk e]; rfl, by rw [cell_blk e]; rfl, by rw [cell_blk e]; rfl⟩)
  have HB := Lib.hid hb_
  clear hb_ b0_
  obtain ⟨-, -, c2⟩ := T0.out w0 (Below.refl _ _)
  go_wp2_with fail
  clear c2
  go_loopw [12] (fun iv wr => ∃ k : Nat, k ≤ n2 ∧ iv = .int .i64 k ∧ Below w.heap.size w wr ∧ ∀ i, i < k → (bs.getD i default).nodes.all (f (bs.getD i default)) = true) (fun iv _ => n2 - (intOf iv).toNat)
  case atStart => exact ⟨0, by omega, rfl, HB.out, fun i hi => by omega⟩
  case round =>
    obtain ⟨wo, rfl⟩ : ∃ x, x = wr := ⟨wr, rfl⟩
    obtain ⟨k, hk, rfl, hb, ho⟩ := hrel
    have Hb := Lib.hid hb
    have Ho := Lib.hid ho
    clear hb ho
    by_cases hlt : k < n2
    · obtain ⟨b, o, ⟨P0, pc0⟩, ⟨Q1, qc1⟩, hA', hb1, x0, x1, x2, hv, hn⟩ := BdsAt.cells H2.out (show k < bs.length by rw [N2.out]; exact hlt)
      dsimp only at hA' x0 x2
      subst hA'
      have y0 := (Hb.out.cell (p := ⟨b, _, none⟩) (Nat.lt_of_lt_of_le hb1 hB)).trans x0
      have y1 := (Hb.out.cell (p := ⟨b, _, none⟩) (Nat.lt_of_lt_of_le hb1 hB)).trans x1
      have y2 := (Hb.out.cell (p := ⟨b, _, none⟩) (Nat.lt_of_lt_of_le hb1 hB)).trans x2
      have R1 := Lib.hid (W1.out k hlt)
      have HI := Lib.hid hn
      have HX : Hid ((bs.getD k default).nodes.all (f (bs.getD k default)) = false → res = false) := Lib.hid (fun h => by rw [HR.out]; exact all_not (by rw [N2.out]; exact hlt) h)
      have HY : Hid ((bs.getD k default).nodes.all (f (bs.getD k default)) = true → ∀ i, i < k + 1 → (bs.getD i default).nodes.all (f (bs.getD i default)) = true) := Lib.hid (fun h i hi => by
        by_cases e : i = k
        · rw [e]; exact h
        · exact Ho.out i (by omega))
      have HF1 := Lib.hid (fun W (hW : Below w.heap.size w W) j hj r hr => HF.out W hW k hlt j hj (P0, pc0) (Q1, qc1) r (hv.below (hW.mono hB)) hr)
      clear x0 x1 x2 hv hn
      generalize bs.getD k default = a at *
      obtain ⟨al, ks, an⟩ := a
      have L4 : an.length ≤ 4000000 := R1.out.2.1
      have R1n : Hid (∀ j, j < an.length → (an.getD j default).code.length ≤ 4000000) := Lib.hid R1.out.2.2
      generalize hfa : f ⟨al, ks, an⟩ = fa at *
      clear hfa
      unfold bdv at HF1
      dsimp only at *
      generalize al.length = l1 at *
      generalize hl3 : an.length = l3 at *
      have M3 := Lib.hid hl3
      clear hl3 R1
      go_upto_region 4 with (fail)
      clear y0 y1 y2
      obtain ⟨b0_, hb_⟩ := boxes1 wo (.cells #[.slice P0 l1 pc0, .int .i64 ks, .slice Q1 l3 qc1] 57)
      generalize wo.alloc (.cells #[.slice P0 l1 pc0, .int .i64 ks, .slice Q1 l3 qc1] 57) = wa at *
      have Ta : Hid (∀ W, Below wa.heap.size wa W → W.cell? ⟨wo.heap.size, 0, none⟩ = some (.slice P0 l1 pc0) ∧ W.cell? ⟨wo.heap.size, 1, none⟩ = some (.int .i64 ks) ∧ W.cell? ⟨wo.heap.size, 2, none⟩ = some (.slice Q1 l3 qc1)) := Lib.hid (fun W hW => by have e := (hW.block _ (lt_blk b0_)).trans b0_; exact ⟨by rw [cell_blk e]; rfl, by rw [cell_blk e]; rfl, by rw [cell_blk e]; rfl⟩)
      have Ba0 := Lib.hid hb_
      clear hb_ b0_
      have Ha := Lib.hid (Hb.out.trans (Ba0.out.mono Hb.out.size))
      obtain ⟨a0, a1, a2⟩ := Ta.out wa (Below.refl _ _)
      go_wp2_with fail
      clear a0 a1 a2
      go_loopw [19] (fun iv wi => ∃ j : Nat, j ≤ l3 ∧ iv = .int .i64 j ∧ Below w.heap.size w wi ∧ Below wa.heap.size wa wi ∧ ∀ i, i < j → fa (an.getD i default) = true) (fun iv _ => l3 - (intOf iv).toNat)
      case atStart => exact ⟨0, by omega, rfl, Ha.out, Below.refl _ _, fun i hi => by omega⟩
      case round =>
        obtain ⟨j, hj, rfl, hbi, hfi, hoi⟩ := hrel
        have Hbi := Lib.hid hbi; have Hfi := Lib.hid hfi; have Hoi := Lib.hid hoi
        clear hbi hfi hoi
        by_cases hlt2 : j < l3
        · obtain ⟨b3, o3, ⟨e0, e1⟩, hP, hb3, x3, x4, x5, x6, x7, g0⟩ := NdsAt.cells HI.out (show j < an.length by rw [M3.out]; exact hlt2)
          dsimp only at hP x3
          have lb : b3 < w.heap.size := Nat.lt_of_lt_of_le hb3 hB
          have x3 := (Hbi.out.cell (p := ⟨b3, _, none⟩) lb).trans x3
          have x4 := (Hbi.out.cell (p := ⟨b3, _, none⟩) lb).trans x4
          have x5 := (Hbi.out.cell (p := ⟨b3, _, none⟩) lb).trans x5
          have x6 := (Hbi.out.cell (p := ⟨b3, _, none⟩) lb).trans x6
          have x7 := (Hbi.out.cell (p := ⟨b3, _, none⟩) lb).trans x7
          have HU : Hid (fa (an.getD j default) = false → res = false) := Lib.hid (fun h => HX.out (all_not (by rw [M3.out]; exact hlt2) h))
          have HV : Hid (fa (an.getD j default) = true → ∀ i, i < j + 1 → fa (an.getD i default) = true) := Lib.hid (fun h i hi => by
            by_cases e : i = j
            · rw [e]; exact h
            · exact Hoi.out i (by omega))
          have HC := Lib.hid (fun W (hW : Below w.heap.size w W) => HF1.out W hW j hlt2 (e0, e1) (g0.below (hW.mono hB)))
          have L5 : (an.getD j default).code.length ≤ 4000000 := R1n.out j hlt2
          clear g0
          subst hP
          unfold ndv at HC
          generalize fa (an.getD j default) = rn at *
          generalize an.getD j default = nd at *
          obtain ⟨cl, n2', n3, n4, n5⟩ := nd
          dsimp only at *
          generalize cl.length = l5 at *
          go_upto_region 7 with (fail)
          clear x3 x4 x5 x6 x7
          obtain ⟨b0_, hb_⟩ := boxes1 wr (.cells #[.slice e0 l5 e1, .int .i64 n2', .int .i64 n3, .int .i64 n4, .int .i64 n5] 60)
          generalize wr.alloc (.cells #[.slice e0 l5 e1, .int .i64 n2', .int .i64 n3, .int .i64 n4, .int .i64 n5] 60) = wx at *
          have Tx : Hid (∀ W, Below wx.heap.size wx W → W.cell? ⟨wr.heap.size, 0, none⟩ = some (.slice e0 l5 e1) ∧ W.cell? ⟨wr.heap.size, 1, none⟩ = some (.int .i64 n2') ∧ W.cell? ⟨wr.heap.size, 2, none⟩ = some (.int .i64 n3) ∧ W.cell? ⟨wr.heap.size, 3, none⟩ = some (.int .i64 n4) ∧ W.cell? ⟨wr.heap.size, 4, none⟩ = some (.int .i64 n5)) := Lib.hid (fun W hW => by have e := (hW.block _ (lt_blk b0_)).trans b0_; exact ⟨by rw [cell_blk e]; rfl, by rw [cell_blk e]; rfl, by rw [cell_blk e]; rfl, by rw [cell_blk e]; rfl, by rw [cell_blk e]; rfl⟩)
          have Bx0 := Lib.hid hb_
          clear hb_ b0_
          have Hx := Lib.hid (Hbi.out.trans (Bx0.out.mono Hbi.out.size))
          have Fx := Lib.hid (Hfi.out.trans (Bx0.out.mono Hfi.out.size))
          obtain ⟨z0, z1, z2, z3, z4⟩ := Tx.out wx (Below.refl _ _)
          obtain ⟨a0, a1, a2⟩ := Ta.out wx Fx.out
          go_wp2_with fail
          refine (HC.out _ Hx.out).mono ?_
          rintro e w3 ⟨rfl, hb3⟩
          clear z0 z1 z2 z3 z4 HC a0 a1 a2
          have Hy := Lib.hid (Hx.out.trans (hb3.mono Hx.out.size))
          have Fy := Lib.hid (Fx.out.trans (hb3.mono Fx.out.size))
          clear hb3
          cases rn
          · have HN := Lib.hid (HU.out rfl)
            go_wp2_with fail
            go_ret
            exact ⟨ret_bool HN.out.symm, Hy.out⟩
          · have HN := Lib.hid (HV.out (by trivial))
            go_wp2_with fail
            go_roundw
            case rel => exact ⟨j + 1, by omega, by go_num, Hy.out, Fy.out, HN.out⟩
            case measure => simp [intOf]; omega
        · obtain rfl : j = l3 := by omega
          have HN := Lib.hid (HY.out (all_of (by rw [M3.out]; exact Hoi.out)))
          go_wp2_with fail
          go_roundw
          case rel => exact ⟨k + 1, by omega, by go_num, Hbi.out, HN.out⟩
          case measure => simp [intOf]; omega
    · obtain rfl : k = n2 := by omega
      have HN : Hid (res = true) := Lib.hid (by rw [HR.out]; exact all_of (by rw [N2.out]; exact Ho.out))
      go_wp2_with fail
      go_ret
      exact ⟨ret_bool HN.out.symm, Hb.out⟩
/-- what is known of a code that fits. -/
theorem fit_bd {c : Cd} (h : cdFit c = true) {k : Nat} (hk : k < c.bodies.length) : bdFit c.shared.length c.mutexes (c.bodies.getD k default) = true := by
  unfold cdFit at h
  simp only [Bool.and_eq_true] at h
  exact all_at h.2.2.2 hk
theorem fit_nd {c : Cd} (h : cdFit c = true) {k : Nat} (hk : k < c.bodies.length) {j : Nat} (hj : j < (c.bodies.getD k default).nodes.length) :
    ((c.bodies.getD k default).nodes.getD j default).code.all (inOk c.shared.length (c.bodies.getD k default).locals.length) = true ∧ ndOk c.shared.length (c.bodies.getD k default).locals.length (c.bodies.getD k default).nodes.length c.mutexes ((c.bodies.getD k default).nodes.getD j default) = true := by
  have := fit_bd h hk
  unfold bdFit at this
  simp only [Bool.and_eq_true] at this
  have := all_at this.2.2.2 hj
  unfold ndFit at this
  simpa using this
set_option maxRecDepth 100000 in
set_option maxHeartbeats 1000000 in
theorem check1_any (g1 : Nat) (sh : List Vl) (bd : Bd) (nb : Nat) (mt : Int) (p q p2 q2 p3 : Slc) (n : Nd) (h1 : sh.length ≤ 4000000) (h2 : bd.locals.length ≤ 4000000) (h3 : n.code.length ≤ 4000000) (hin : n.code.all (inOk sh.length bd.locals.length) = true) (hok : ndOk sh.length bd.locals.length bd.nodes.length mt n = true) (B : Nat) (w : World)
    (hs : VlsAt w B p sh) (hl : VlsAt w B p2 bd.locals) (hc : InsAt w B p3 n.code) (hB : B ≤ w.heap.size) (hg : w.heap[g1]? = some (.cells #[.slice p.1 sh.length p.2, .int .i64 mt, .slice q.1 nb q.2] 25 (0, 0))) :
    Calls Try.prog 55 #[bdv bd p2 q2, ndv n p3, .pointer (some ⟨g1, 0, none⟩)] w fun e w' => e = .returned (.bool (ndTy sh bd n)) ∧ Below w.heap.size w w' := by
  have HT := Lib.hid (fun W (h : Below w.heap.size w W) => typed_any sh bd nb bd.nodes.length mt p q p2 q2 p3 n h1 h2 h3 hin hok B W (hs.below (h.mono hB)) (hl.below (h.mono hB)) (hc.below (h.mono hB)) (Nat.le_trans hB h.size))
  have HG := Lib.hid hg
  unfold cav at HT
  unfold bdv ndv at *
  clear hin hok hs hl hc hg
  generalize ndTy sh bd n = res at *
  obtain ⟨lo, st, nds⟩ := bd
  obtain ⟨cd, kind, arg, next, alt⟩ := n
  obtain ⟨A, cp⟩ := p; obtain ⟨A', cp'⟩ := q; obtain ⟨A2, cp2⟩ := p2; obtain ⟨A2', cp2'⟩ := q2; obtain ⟨A3, cp3⟩ := p3
  dsimp only at *
  generalize sh.length = ns at *
  generalize lo.length = nl at *
  generalize cd.length = nc at *
  generalize nds.length = nn at *
  go_enter Try.func55, Try.ntmps55
  go_upto_region 1 with (fail)
  obtain ⟨b0_, b1_, hb_⟩ := boxes2 w (.cells #[.slice A2 nl cp2, .int .i64 st, .slice A2' nn cp2'] 57) (.cells #[.slice A3 nc cp3, .int .i64 kind, .int .i64 arg, .int .i64 next, .int .i64 alt] 60)
  generalize (w.alloc (.cells #[.slice A2 nl cp2, .int .i64 st, .slice A2' nn cp2'] 57)).alloc (.cells #[.slice A3 nc cp3, .int .i64 kind, .int .i64 arg, .int .i64 next, .int .i64 alt] 60) = w0 at *
  have T1 : Hid (∀ W, Below w0.heap.size w0 W → W.cell? ⟨w.heap.size, 0, none⟩ = some (.slice A2 nl cp2) ∧ W.cell? ⟨w.heap.size, 1, none⟩ = some (.int .i64 st) ∧ W.cell? ⟨w.heap.size, 2, none⟩ = some (.slice A2' nn cp2')) := Lib.hid (fun W hW => by have e := (hW.block _ (lt_blk b0_)).trans b0_; exact ⟨by rw [cell_blk e]; rfl, by rw [cell_blk e]; rfl, by rw [cell_blk e]; rfl⟩)
  have T2 : Hid (∀ W, Below w0.heap.size w0 W → W.cell? ⟨w.heap.size + 1, 0, none⟩ = some (.slice A3 nc cp3) ∧ W.cell? ⟨w.heap.size + 1, 1, none⟩ = some (.int .i64 kind) ∧ W.cell? ⟨w.heap.size + 1, 2, none⟩ = some (.int .i64 arg) ∧ W.cell? ⟨w.heap.size + 1, 3, none⟩ = some (.int .i64 next) ∧ W.cell? ⟨w.heap.size + 1, 4, none⟩ = some (.int .i64 alt)) := Lib.hid (fun W hW => by have e := (hW.block _ (lt_blk b1_)).trans b1_; exact ⟨by rw [cell_blk e]; rfl, by rw [cell_blk e]; rfl, by rw [cell_blk e]; rfl, by rw [cell_blk e]; rfl, by rw [cell_blk e]; rfl⟩)
  have BA := Lib.hid hb_
  clear hb_ b0_ b1_
  have e1 := (BA.out.block _ (lt_blk HG.out)).trans HG.out
  have x0 : w0.cell? ⟨g1, 0, none⟩ = some (.slice A ns cp) := by rw [cell_blk e1]; rfl
  have x1 : w0.cell? ⟨g1, 1, none⟩ = some (.int .i64 mt) := by rw [cell_blk e1]; rfl
  have x2 : w0.cell? ⟨g1, 2, none⟩ = some (.slice A' nb cp') := by rw [cell_blk e1]; rfl
  clear e1
  obtain ⟨b0, b1, b2⟩ := T1.out w0 (Below.refl _ _)
  obtain ⟨c0, c1, c2, c3, c4⟩ := T2.out w0 (Below.refl _ _)
  go_wp2_with fail
  refine (HT.out _ BA.out).mono ?_
  rintro e w1 ⟨rfl, hb1⟩
  have HB := Lib.hid (BA.out.trans (hb1.mono BA.out.size))
  clear hb1 x0 x1 x2 b0 b1 b2 c0 c1 c2 c3 c4
  go_wp2_with fail
  go_ret
  exact ⟨rfl, HB.out⟩
set_option maxRecDepth 100000 in
set_option maxHeartbeats 1000000 in
theorem check2_any (bd : Bd) (p2 q2 p3 : Slc) (n : Nd) (h3 : n.code.length ≤ 4000000) (B : Nat) (w : World) (hc : InsAt w B p3 n.code) (hB : B ≤ w.heap.size) :
    Calls Try.prog 57 #[bdv bd p2 q2, ndv n p3] w fun e w' => e = .returned (.bool (decide (ndTo n ≤ 1))) ∧ Below w.heap.size w w' := by
  have HT := Lib.hid (fun W (h : Below w.heap.size w W) => touches_any n p3 h3 B W (hc.below (h.mono hB)) (Nat.le_trans hB h.size))
  have HN : Hid (decide (((ndTo n : Nat) : Int) ≤ 1) = decide (ndTo n ≤ 1)) := Lib.hid (by by_cases h : ndTo n ≤ 1 <;> simp [h] <;> omega)
  unfold bdv ndv at *
  clear hc
  generalize hd : decide (ndTo n ≤ 1) = d at *
  clear hd
  generalize ndTo n = res at *
  obtain ⟨lo, st, nds⟩ := bd
  obtain ⟨cd, kind, arg, next, alt⟩ := n
  obtain ⟨A2, cp2⟩ := p2; obtain ⟨A2', cp2'⟩ := q2; obtain ⟨A3, cp3⟩ := p3
  dsimp only at *
  generalize lo.length = nl at *
  generalize cd.length = nc at *
  generalize nds.length = nn at *
  go_enter Try.func57, Try.ntmps57
  go_upto_region 1 with (fail)
  obtain ⟨b0_, b1_, hb_⟩ := boxes2 w (.cells #[.slice A2 nl cp2, .int .i64 st, .slice A2' nn cp2'] 57) (.cells #[.slice A3 nc cp3, .int .i64 kind, .int .i64 arg, .int .i64 next, .int .i64 alt] 60)
  generalize (w.alloc (.cells #[.slice A2 nl cp2, .int .i64 st, .slice A2' nn cp2'] 57)).alloc (.cells #[.slice A3 nc cp3, .int .i64 kind, .int .i64 arg, .int .i64 next, .int .i64 alt] 60) = w0 at *
  have T1 : Hid (∀ W, Below w0.heap.size w0 W → W.cell? ⟨w.heap.size, 0, none⟩ = some (.slice A2 nl cp2) ∧ W.cell? ⟨w.heap.size, 1, none⟩ = some (.int .i64 st) ∧ W.cell? ⟨w.heap.size, 2, none⟩ = some (.slice A2' nn cp2')) := Lib.hid (fun W hW => by have e := (hW.block _ (lt_blk b0_)).trans b0_; exact ⟨by rw [cell_blk e]; rfl, by rw [cell_blk e]; rfl, by rw [cell_blk e]; rfl⟩)
  have T2 : Hid (∀ W, Below w0.heap.size w0 W → W.cell? ⟨w.heap.size + 1, 0, none⟩ = some (.slice A3 nc cp3) ∧ W.cell? ⟨w.heap.size + 1, 1, none⟩ = some (.int .i64 kind) ∧ W.cell? ⟨w.heap.size + 1, 2, none⟩ = some (.int .i64 arg) ∧ W.cell? ⟨w.heap.size + 1, 3, none⟩ = some (.int .i64 next) ∧ W.cell? ⟨w.heap.size + 1, 4, none⟩ = some (.int .i64 alt)) := Lib.hid (fun W hW => by have e := (hW.block _ (lt_blk b1_)).trans b1_; exact ⟨by rw [cell_blk e]; rfl, by rw [cell_blk e]; rfl, by rw [cell_blk e]; rfl, by rw [cell_blk e]; rfl, by rw [cell_blk e]; rfl⟩)
  have BA := Lib.hid hb_
  clear hb_ b0_ b1_
  obtain ⟨c0, c1, c2, c3, c4⟩ := T2.out w0 (Below.refl _ _)
  go_wp2_with fail
  refine (HT.out _ BA.out).mono ?_
  rintro e w1 ⟨rfl, hb1⟩
  have HB := Lib.hid (BA.out.trans (hb1.mono BA.out.size))
  have d1 := HN.out
  clear hb1 c0 c1 c2 c3 c4
  go_wp2_with fail
  go_ret
  exact ⟨ret_bool (by first | rfl | exact d1 | simpa using HN.out), HB.out⟩
set_option maxRecDepth 100000 in
set_option maxHeartbeats 2000000 in
theorem check_any (c : Cd) (s : CdSmall c) (hp : CdIn c) (p p2 : Slc) (B : Nat) (w : World) (h1 : VlsAt w B p c.shared) (h2 : BdsAt w B p2 c.bodies) (hB : B ≤ w.heap.size) :
    Calls Try.prog 21 #[cdv c p p2] w fun e w' => e = .returned (.int .i64 (chk c)) ∧ Below w.heap.size w w' := by
  have HL := Lib.hid (fun W (h : Below w.heap.size w W) => code_long c s p p2 B W (h2.below (h.mono hB)) (Nat.le_trans hB h.size))
  have HFi := Lib.hid (fun W (h : Below w.heap.size w W) => fits_any c s hp p p2 B W (h1.below (h.mono hB)) (h2.below (h.mono hB)) (Nat.le_trans hB h.size))
  have HN1 : Hid (cdFit c = true → ∀ g1 W, Below w.heap.size w W → W.heap[g1]? = some (.cells #[.slice p.1 c.shared.length p.2, .int .i64 c.mutexes, .slice p2.1 c.bodies.length p2.2] 25 (0, 0)) →
      Calls Try.prog 54 #[cdv c p p2, .func (.func 55) #[] #[.pointer (some ⟨g1, 0, none⟩)]] W fun e w' => e = .returned (.bool (allN (ndTy c.shared) c.bodies)) ∧ Below W.heap.size W w') := Lib.hid (fun hf g1 W hW hg =>
    nodes_1 g1 (ndTy c.shared) c s p p2 B W (h2.below (hW.mono hB)) (Nat.le_trans hB hW.size) (fun W2 hW2 k hk j hj pp q r hl hi =>
      check1_any g1 c.shared (c.bodies.getD k default) c.bodies.length c.mutexes p p2 pp q r _ s.1 (s.2.2 k hk).1 ((s.2.2 k hk).2.2 j hj) (fit_nd hf hk hj).1 (fit_nd hf hk hj).2 B W2
        ((h1.below (hW.mono hB)).below (hW2.mono (Nat.le_trans hB hW.size))) hl hi (Nat.le_trans hB (Nat.le_trans hW.size hW2.size)) ((hW2.block _ (lt_blk hg)).trans hg)))
  have HN2 : Hid (∀ W, Below w.heap.size w W →
      Calls Try.prog 54 #[cdv c p p2, .func (.func 57) #[] #[]] W fun e w' => e = .returned (.bool (allN (fun _ n => decide (ndTo n ≤ 1)) c.bodies)) ∧ Below W.heap.size W w') := Lib.hid (fun W hW =>
    nodes_2 0 (fun _ n => decide (ndTo n ≤ 1)) c s p p2 B W (h2.below (hW.mono hB)) (Nat.le_trans hB hW.size) (fun W2 hW2 k hk j hj pp q r hl hi =>
      check2_any (c.bodies.getD k default) pp q r _ ((s.2.2 k hk).2.2 j hj) B W2 hi (Nat.le_trans hB (Nat.le_trans hW.size hW2.size))))
  have HR : Hid (chk c = if cdLong c then 3 else if !cdFit c then 2 else if !allN (ndTy c.shared) c.bodies then 9 else if !allN (fun _ n => decide (ndTo n ≤ 1)) c.bodies then 190 else 0) := Lib.hid rfl
  clear h1 h2 hp s
  unfold cdv at *
  generalize chk c = res at *
  generalize cdLong c = q1 at *
  generalize cdFit c = q2 at *
  generalize allN (ndTy c.shared) c.bodies = q3 at *
  generalize allN (fun _ n => decide (ndTo n ≤ 1)) c.bodies = q4 at *
  obtain ⟨sh, mt, bs⟩ := c
  obtain ⟨A, cp⟩ := p
  obtain ⟨A', cp'⟩ := p2
  dsimp only at *
  generalize sh.length = n1 at *
  generalize bs.length = n2 at *
  go_enter Try.func21, Try.ntmps21
  go_upto_region 1 with (fail)
  obtain ⟨b0_, hb_⟩ := boxes1 w (.cells #[.slice A n1 cp, .int .i64 mt, .slice A' n2 cp'] 25)
  generalize w.alloc (.cells #[.slice A n1 cp, .int .i64 mt, .slice A' n2 cp'] 25) = w0 at *
  have T0b : Hid (∀ W, Below w0.heap.size w0 W → W.heap[w.heap.size]? = some (.cells #[.slice A n1 cp, .int .i64 mt, .slice A' n2 cp'] 25 (0, 0))) := Lib.hid (fun W hW => (hW.block _ (lt_blk b0_)).trans b0_)
  have T0 : Hid (∀ W, Below w0.heap.size w0 W → W.cell? ⟨w.heap.size, 0, none⟩ = some (.slice A n1 cp) ∧ W.cell? ⟨w.heap.size, 1, none⟩ = some (.int .i64 mt) ∧ W.cell? ⟨w.heap.size, 2, none⟩ = some (.slice A' n2 cp')) := Lib.hid (fun W hW => by have e := (hW.block _ (lt_blk b0_)).trans b0_; exact ⟨by rw [cell_blk e]; rfl, by rw [cell_blk e]; rfl, by rw [cell_blk e]; rfl⟩)
  have HB := Lib.hid hb_
  clear hb_ b0_
  obtain ⟨c0, c1, c2⟩ := T0.out w0 (Below.refl _ _)
  go_wp2_with fail
  refine (HL.out _ HB.out).mono ?_
  rintro e w1 ⟨rfl, hb1⟩
  clear c0 c1 c2
  obtain ⟨c0, c1, c2⟩ := T0.out w1 hb1
  have G1 := Lib.hid hb1
  have B1 := Lib.hid (HB.out.trans (hb1.mono HB.out.size))
  clear hb1 HL
  cases q1
  rotate_left
  · go_wp2_with fail
    go_ret
    exact ⟨ret_int HR.out.symm, B1.out⟩
  go_wp2_with fail
  refine (HFi.out _ B1.out).mono ?_
  rintro e w2 ⟨rfl, hb1⟩
  clear c0 c1 c2
  have G2 := Lib.hid (G1.out.trans (hb1.mono G1.out.size))
  obtain ⟨c0, c1, c2⟩ := T0.out w2 G2.out
  have B2 := Lib.hid (B1.out.trans (hb1.mono B1.out.size))
  clear hb1 HFi
  cases q2
  · go_wp2_with fail
    go_ret
    exact ⟨ret_int HR.out.symm, B2.out⟩
  go_wp2_with fail
  refine (HN1.out (by trivial) _ _ B2.out (T0b.out _ G2.out)).mono ?_
  rintro e w3 ⟨rfl, hb1⟩
  clear c0 c1 c2
  have G3 := Lib.hid (G2.out.trans (hb1.mono G2.out.size))
  obtain ⟨c0, c1, c2⟩ := T0.out w3 G3.out
  have B3 := Lib.hid (B2.out.trans (hb1.mono B2.out.size))
  clear hb1 HN1
  cases q3
  · go_wp2_with fail
    go_ret
    exact ⟨ret_int HR.out.symm, B3.out⟩
  go_wp2_with fail
  refine (HN2.out _ B3.out).mono ?_
  rintro e w4 ⟨rfl, hb1⟩
  clear c0 c1 c2
  have B4 := Lib.hid (B3.out.trans (hb1.mono B3.out.size))
  clear hb1 HN2
  cases q4
  all_goals
    go_wp2_with fail
    go_ret
    exact ⟨ret_int HR.out.symm, B4.out⟩
end Go.Proofs.Ytbmpjphemjponaa
