/- assizekit.OverCode. -/
import Derived.Test.YtbmpjphemjponaaVj
set_option linter.unusedSimpArgs false
set_option linter.unusedVariables false
namespace Go.Proofs.Ytbmpjphemjponaa
open Go.RowKit

set_option maxRecDepth 100000 in
set_option maxHeartbeats 4000000 in
theorem over_code (p q : Slc) (n m : Nat) (mt : Int) (hn : n ≤ 4000000) (hm : m ≤ 4000000) (L : Nat) (w : World) (h : ShV w L p n) (h2 : ShB w L q m) (hL : L ≤ w.heap.size) :
    Calls Try.prog 12 #[.agg #[.slice p.1 n p.2, .int .i64 mt, .slice q.1 m q.2]] w fun e w' => e = .returned (.tuple #[]) ∧ Kin L w w' := by
  obtain ⟨A, cp⟩ := p
  obtain ⟨A', cp'⟩ := q
  dsimp only
  have H1 := Lib.hid h; have H2 := Lib.hid h2
  clear h h2
  go_enter Try.func12, Try.ntmps12
  go_upto_region 1 with (fail)
  have hb := below_alloc w (.cells #[.slice A n cp, .int .i64 mt, .slice A' m cp'] 25)
  have b0 := heap_alloc_new w (.cells #[.slice A n cp, .int .i64 mt, .slice A' m cp'] 25)
  generalize w.alloc (.cells #[.slice A n cp, .int .i64 mt, .slice A' m cp'] 25) = w0 at *
  have HK := Lib.hid (Kin.of_below hb hL)
  have HS : Hid (SCell w0 L w.heap.size 2 (A', cp') m) := Lib.hid ⟨hL, _, _, b0, rfl⟩
  have c0 : w0.cell? ⟨w.heap.size, 0, none⟩ = some (.slice A n cp) := by rw [cell_blk b0]; rfl
  have hL0 : L ≤ w0.heap.size := Nat.le_trans hL hb.size
  clear hb b0
  go_wp2_with fail
  refine (over_values (A, cp) n hn L w0 (H1.out.kin HK.out) hL0).mono ?_
  rintro e w1 ⟨rfl, hk1⟩
  have HK1 := Lib.hid (HK.out.trans hk1)
  have HS1 := Lib.hid (HS.out.kin hk1)
  clear hk1 c0
  go_wp2_with fail
  go_loopw [2] (fun iv wr => ∃ k : Nat, k ≤ m ∧ iv = .int .i64 k ∧ Kin L w1 wr) (fun iv _ => m - (intOf iv).toNat)
  case atStart => exact ⟨0, by omega, rfl, Kin.refl _ _⟩
  case round =>
    obtain ⟨wo, rfl⟩ : ∃ x, x = wr := ⟨wr, rfl⟩
    obtain ⟨k, hk, rfl, hb⟩ := hrel
    have Hb := Lib.hid hb
    clear hb
    have c0 := (HS1.out.kin Hb.out).cell
    dsimp only at c0
    by_cases hlt : k < m
    · obtain ⟨b, o, ⟨P0, pc0⟩, m1, ⟨P1, pc1⟩, m2, hA, k0, k1, k2, k3, k4, k5, k6⟩ := (H2.out.kin (HK1.out.trans Hb.out)) k hlt
      dsimp only at hA
      subst hA
      have c1 := k0.cell
      dsimp only at c1
      have K2 := Lib.hid k2; have K3 := Lib.hid k3; have K5 := Lib.hid k5; have K6 := Lib.hid k6
      clear k0 k2 k3 k5 k6
      have hLo : L ≤ wo.heap.size := Nat.le_trans (Nat.le_trans hL HK1.out.below.size) Hb.out.below.size
      go_wp2_with fail
      refine (over_values (P0, pc0) m1 k1 L wo K5.out hLo).mono ?_
      rintro e w2 ⟨rfl, hk2⟩
      clear c0 c1
      have Hb2 := Lib.hid hk2
      have Hk2 := Lib.hid (Hb.out.trans hk2)
      clear hk2
      obtain ⟨x, hx⟩ := (K2.out.kin Hb2.out).cell
      have hL2 : L ≤ w2.heap.size := Nat.le_trans hLo Hb2.out.below.size
      have T : Hid (∀ W, Below w2.heap.size w2 W → W.cell? ⟨w.heap.size, 2, none⟩ = some (.slice (some ⟨b, o, none⟩) m cp') ∧ W.cell? ⟨b, o + k * 3 + 1, none⟩ = some (.int .i64 x)) := Lib.hid (fun W hW => ⟨((HS1.out.kin Hk2.out).kin (Kin.of_below hW hL2)).cell, (hW.cell (p := ⟨b, o + k * 3 + 1, none⟩) (lt_cell hx)).trans hx⟩)
      clear hx
      go_upto_region 6 with (fail)
      apply wp_region_relH (H := []) 12 [(Sum.inl _ : TT), (Sum.inl _ : TT), (Sum.inl _ : TT), (Sum.inl _ : TT), (Sum.inl _ : TT), (Sum.inl _ : TT), (Sum.inl _ : TT), (Sum.inl _ : TT), (Sum.inl _ : TT), (Sum.inl _ : TT), (Sum.inl _ : TT), (Sum.inl _ : TT)] (by kernel_rfl) (by kernel_rfl) (fun _ _ _ _ _ h => h) rfl
      simp only [List.take_succ_cons, List.take_zero, List.drop_succ_cons, List.drop_zero]
      iterate 12 (apply rel_isS; (intro W hW hf; obtain ⟨u0, u1⟩ := T.out W hW; go_simp; first | exact ⟨StayS.refl _ _, rfl⟩ | rfl); simp only [Act.put, List.setIfInBounds_toArray, List.set_cons_succ, List.set_cons_zero])
      refine rel_endS ?_
      intro W hW hf
      try simp only [Act.put, List.setIfInBounds_toArray, List.set_cons_succ, List.set_cons_zero]
      have c0 := (T.out W hW).2
      have HW := Lib.hid (Kin.of_below hW hL2)
      have KW := Lib.hid ((K2.out.kin Hb2.out).kin HW.out)
      have fz := KW.out.free
      clear hW hf
      go_wp2_with fail
      clear c0 fz
      go_loopw [3] (fun iv wr => ∃ j : Nat, j ≤ m2 ∧ iv = .int .i64 j ∧ Kin L wo wr) (fun iv _ => m2 - (intOf iv).toNat)
      case atStart => exact ⟨0, by omega, rfl, (Hb2.out.trans HW.out).set KW.out _⟩
      case round =>
        obtain ⟨wi, rfl⟩ : ∃ x, x = wr := ⟨wr, rfl⟩
        obtain ⟨j, hj, rfl, hbi⟩ := hrel
        have Hbi := Lib.hid hbi
        clear hbi HW KW T
        have c0 := (HS1.out.kin (Hb.out.trans Hbi.out)).cell
        have c1 := (K3.out.kin Hbi.out).cell
        dsimp only at c0 c1
        by_cases hlt2 : j < m2
        · obtain ⟨b3, o3, ⟨P3, pc3⟩, m3, hA, q0, q1, q2, q3, q4⟩ := (K6.out.kin Hbi.out) j hlt2
          dsimp only at hA
          subst hA
          obtain ⟨x1, c2⟩ := q2.cell
          obtain ⟨x3, c3⟩ := q3.cell
          have c4 := q0.cell
          dsimp only at c4
          have fz := q2.free
          have Q0 := Lib.hid q0; have Q2 := Lib.hid q2; have Q3 := Lib.hid q3; have Q4 := Lib.hid q4
          clear q0 q2 q3 q4
          go_wp2_with fail
          clear c0 c1 c2 c3 c4 fz
          go_loopw [5] (fun iv wr => ∃ i : Nat, i ≤ m3 ∧ iv = .int .i64 i ∧ Kin L wi wr) (fun iv _ => m3 - (intOf iv).toNat)
          case atStart => exact ⟨0, by omega, rfl, ((Kin.refl L wi).set Q2.out _).set (Q3.out.kin ((Kin.refl L wi).set Q2.out _)) _⟩
          case round =>
            obtain ⟨i, hi, rfl, hbk⟩ := hrel
            have Hbk := Lib.hid hbk
            clear hbk
            have c0 := (Q0.out.kin Hbk.out).cell
            dsimp only at c0
            by_cases hlt3 : i < m3
            · obtain ⟨b5, o5, hA, r1⟩ := (Q4.out.kin Hbk.out) i hlt3
              dsimp only at hA
              subst hA
              obtain ⟨x, hx⟩ := r1.cell
              have R1 := Lib.hid r1
              clear r1
              have hLr : L ≤ wr.heap.size := Nat.le_trans (Nat.le_trans hLo Hbi.out.below.size) Hbk.out.below.size
              have T : Hid (∀ W, Below wr.heap.size wr W → W.cell? ⟨b3, o3 + j * 5, none⟩ = some (.slice (some ⟨b5, o5, none⟩) m3 pc3) ∧ W.cell? ⟨b5, o5 + i * 4, none⟩ = some (.int .u8 x)) := Lib.hid (fun W hW => ⟨((Q0.out.kin Hbk.out).kin (Kin.of_below hW hLr)).cell, (hW.cell (p := ⟨b5, o5 + i * 4, none⟩) (lt_cell hx)).trans hx⟩)
              clear hx
              go_upto_region 16 with (fail)
              clear c0
              apply wp_region_relH (H := []) 16 [(Sum.inl _ : TT), (Sum.inl _ : TT), (Sum.inl _ : TT), (Sum.inl _ : TT), (Sum.inl _ : TT), (Sum.inl _ : TT), (Sum.inl _ : TT), (Sum.inl _ : TT), (Sum.inl _ : TT), (Sum.inl _ : TT), (Sum.inl _ : TT), (Sum.inl _ : TT), (Sum.inl _ : TT), (Sum.inl _ : TT), (Sum.inl _ : TT), (Sum.inl _ : TT)] (by kernel_rfl) (by kernel_rfl) (fun _ _ _ _ _ h => h) rfl
              simp only [List.take_succ_cons, List.take_zero, List.drop_succ_cons, List.drop_zero]
              iterate 16 (apply rel_isS; (intro W hW hf; obtain ⟨u0, u1⟩ := T.out W hW; go_simp; first | exact ⟨StayS.refl _ _, rfl⟩ | rfl); simp only [Act.put, List.setIfInBounds_toArray, List.set_cons_succ, List.set_cons_zero])
              refine rel_endS ?_
              intro W hW hf
              try simp only [Act.put, List.setIfInBounds_toArray, List.set_cons_succ, List.set_cons_zero]
              have c0 := (T.out W hW).2
              have HW := Lib.hid (Kin.of_below hW hLr)
              have KW := Lib.hid (R1.out.kin HW.out)
              have fz := KW.out.free
              clear hW hf
              go_wp2_with fail
              go_roundw
              case rel => exact ⟨i + 1, by omega, by go_num, (Hbk.out.trans HW.out).set KW.out _⟩
              case measure => simp [intOf]; omega
            · obtain rfl : i = m3 := by omega
              go_wp2_with fail
              go_roundw
              case rel => exact ⟨j + 1, by omega, by go_num, Hbi.out.trans Hbk.out⟩
              case measure => simp [intOf]; omega
        · obtain rfl : j = m2 := by omega
          go_wp2_with fail
          go_roundw
          case rel => exact ⟨k + 1, by omega, by go_num, Hb.out.trans Hbi.out⟩
          case measure => simp [intOf]; omega
    · obtain rfl : k = m := by omega
      go_wp2_with fail
      go_end0
      exact ⟨rfl, HK1.out.trans Hb.out⟩
end Go.Proofs.Ytbmpjphemjponaa
