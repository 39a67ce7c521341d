/- ClockOrders: its walk. -/
import Derived.Test.YtmllmfjdbfikoaaCu
set_option linter.unusedSimpArgs false
set_option linter.unusedVariables false
namespace Go.Proofs.Ytmllmfjdbfikoaa
open Go.RowKit

set_option maxRecDepth 100000 in
set_option maxHeartbeats 8000000 in
theorem clockorders_walk (l : List Ev) (A : Option Addr) (cap : Nat) (n at_ : Int) (w : World) (hA : Evs w w.heap.size A l) (hA0 : A = none → l.length = 0) (hl : l.length ≤ 140737488351232) (hcap : l.length ≤ cap)
    (hat : (-9223372036854775808 : Int) ≤ at_ ∧ at_ ≤ 9223372036854775807) :
    Calls Try.prog 4 #[.slice A l.length cap, .int .i64 n, .int .i64 at_] w fun e w' => e = .returned (.bool true) ∧ Below w.heap.size w w' := by
  have HA := Lib.hid hA; have HA0 := Lib.hid hA0
  clear hA hA0
  obtain ⟨m, hm⟩ : ∃ m, m = l.length := ⟨_, rfl⟩
  have HM := Lib.hid hm
  rw [← hm] at HA0 hl hcap ⊢
  clear hm
  go_enter Try.func4, Try.ntmps4
  go_wp2_with fail
  refine (known_any w).mono ?_
  rintro e w1 ⟨rfl, hb1⟩
  have HB1 := Lib.hid hb1
  clear hb1
  by_cases hm50 : 50 < m
  · go_wp2_with fail
    go_ret
    exact ⟨rfl, HB1.out⟩
  have HC := Lib.hid (clocks_any l (by have := HM.out; omega) n A cap (by rw [← HM.out]; exact hcap) w1 ((HA.out.below HB1.out).more HB1.out.size))
  rw [← HM.out] at HC
  go_wp2_with fail
  with_reducible refine HC.out.mono ?_
  rintro e w2 ⟨hb2, hcase⟩
  have HB2 := Lib.hid (HB1.out.trans (hb2.mono HB1.out.size))
  clear hb2 HC
  rcases hcase with ⟨hw, rfl⟩ | ⟨hw, v, g, cur, rfl, hv, hg1, hg, hcl⟩
  · have hn0 : ((wrongE l n : Nat) : Int) ≠ 0 := by omega
    have d0 : (((wrongE l n : Nat) : Int) != 0) = true := by rw [bne_iff_ne]; exact hn0
    generalize wrongE l n = we at *
    clear hw hn0
    go_wp2_with fail
    go_ret
    exact ⟨rfl, HB2.out⟩
  obtain ⟨x1, x2, x3, x4⟩ := wrong_ok hw
  have HG := Lib.hid (fun i (hi : i < m) => good_at x4 (show i < l.length by rw [← HM.out]; exact hi))
  have HWR := Lib.hid hw
  clear hw x3 x4
  obtain ⟨n, rfl⟩ := Int.eq_ofNat_of_zero_le (show 0 ≤ n by omega)
  rw [← HM.out] at hv
  obtain ⟨Ad, cd, rfl, hck⟩ := clk_of (l := l) (by rw [← HM.out]; exact hv) hg hcl
  rw [← HM.out, Int.toNat_natCast] at hck
  rw [← HM.out]
  have HD := Lib.hid hck
  clear hv hg hcl hck hg1 g cur
  go_wp2_with fail
  go_loopw [10, 11] (fun ov iv wr => ∃ (k : Nat) (vs : List Value), k ≤ m ∧ iv = .int .i64 k ∧ wr.ownsRow w2.heap.size 28 1 ov k vs ∧ Outs wr vs n (clk l) ∧ Below w2.heap.size w2 wr) (fun _ iv _ => m - (intOf iv).toNat)
  case atStart => exact ⟨0, [], by omega, rfl, World.ownsRow_nil _ _ _ _, fun i hi => by simp at hi, Below.refl _ _⟩
  case round =>
    obtain ⟨k, vs, hk, rfl, ho, hou, hb⟩ := hrel
    have HO := Lib.hid ho; have HU := Lib.hid hou; have HB3 := Lib.hid hb
    obtain ⟨Ao, co, rfl, hcl⟩ := hou.clk ho
    have HCL := Lib.hid hcl
    clear ho hou hb hcl
    by_cases hkm : k < m
    · obtain ⟨b, o, rfl, hb0, h1, h2, h3⟩ := HA.out k (by rw [← HM.out]; exact hkm)
      have T : Hid (∀ W, Below wr.heap.size wr W → W.cell? ⟨b, o + k * 3, none⟩ = some (.int .i64 (ev l k).t) ∧ W.cell? ⟨b, o + k * 3 + 1, none⟩ = some (.int .i64 (ev l k).k) ∧ W.cell? ⟨b, o + k * 3 + 2, none⟩ = some (.int .i64 (ev l k).o)) := Lib.hid (fun W hW => by
        have hX := HB2.out.trans ((HB3.out.trans (hW.mono HB3.out.size)).mono HB2.out.size)
        exact ⟨(hX.cell (p := ⟨b, o + k * 3, none⟩) hb0).trans h1, (hX.cell (p := ⟨b, o + k * 3 + 1, none⟩) hb0).trans h2, (hX.cell (p := ⟨b, o + k * 3 + 2, none⟩) hb0).trans h3⟩)
      clear h1 h2 h3
      have g1 : (0 : Int) ≤ k := by omega
      have g2 : (k : Int) < m := by omega
      have g3 : (k : Int) ≤ cap := by omega
      go_upto_region 11 with (fail)
      apply wp_region_relH (H := []) 9 [.inl _, .inl _, .inl _, .inl _, .inl _, .inl _, .inl _, .inl _, .inl _] (by kernel_rfl) (by kernel_rfl) (fun _ _ _ _ _ h => h) rfl
      simp only [List.take_succ_cons, List.take_zero, List.drop_succ_cons, List.drop_zero]
      iterate 9 (apply rel_isS; (intro W hW hf; obtain ⟨hx1, hx2, hx3⟩ := T.out W hW; go_simp; first | exact ⟨StayS.refl _ _, rfl⟩ | rfl); simp only [Act.put, List.setIfInBounds_toArray, List.set_cons_succ, List.set_cons_zero])
      refine rel_endS ?_
      intro W hW hf
      try simp only [Act.put, List.setIfInBounds_toArray, List.set_cons_succ, List.set_cons_zero]
      have HW := Lib.hid hW
      clear hW hf
      have HBW := Lib.hid (HB3.out.trans (HW.out.mono HB3.out.size))
      have HNX := Lib.hid (next_any (l.take k) k (by simp; have := HM.out; omega) (ev l k) n (by rw [← take_ev l k (by rw [← HM.out]; exact hkm)]; exact wrong_take HWR.out (k + 1) (by have := HM.out; omega)) (clk l) Ao (some ⟨b, o, none⟩) co cap W ((HCL.out.below HW.out).more HW.out.size) (((HA.out.take k).below (HB2.out.trans (HBW.out.mono HB2.out.size))).more (Nat.le_trans HB2.out.size HBW.out.size)) (fun h => by cases h))
      rw [ev_eta] at HNX
      go_wp2_with fail
      with_reducible refine HNX.out.mono ?_
      rintro e w4 ⟨g, cur, rfl, hg, hg4, hr4, hb4⟩
      have HU4 := Lib.hid (((HU.out.below HW.out).below hb4).snoc (g := g) (k := k) (by have := HO.out.1; omega) hg4 (fun t ht => (hr4 t ht).trans (by dsimp only; rw [nxt_clk])))
      have HO4 := Lib.hid (own_below (own_below HO.out HW.out) hb4)
      have HB4 := Lib.hid (HBW.out.trans (hb4.mono HBW.out.size))
      clear hg hg4 hr4 hb4
      go_wp2_with (at_builtin; refine wpList_append_one0 EII rfl (.tmp 52) (.tmp 54) rfl w2.heap.size (.slice (some ⟨g, 0, none⟩) n n) rfl _ k vs rfl HO4.out rfl (by omega) (by omega) w2 (Nat.le_refl _) HB4.out ?_; intro v5 w5 h2 h3 h4 h5; clear h5; have O5 := Lib.hid h2; have HB5 := Lib.hid h3; have HU5 := Lib.hid (HU4.out.grown HO4.out h4); clear h2 h3 h4)
      go_roundw
      case rel => exact ⟨k + 1, _, by omega, by go_num, O5.out, HU5.out, HB5.out⟩
      case measure => simp [intOf]; omega
    · obtain rfl : k = m := by omega
      have HX3 := Lib.hid (HB2.out.trans (HB3.out.mono HB2.out.size))
      have HD3 := Lib.hid ((HD.out.below HB3.out).more HB3.out.size)
      have HS1 := Lib.hid (same_lists k n (by omega) (by omega) (clk l) (clk l) (fun _ _ _ _ => rfl) Ao Ad co cd wr.heap.size wr HCL.out HD3.out (Nat.le_refl _))
      go_wp2_with fail
      with_reducible refine HS1.out.mono ?_
      rintro e w4 ⟨rfl, hb4⟩
      have HB4 := Lib.hid (HX3.out.trans (hb4.mono HX3.out.size))
      have HD4 := Lib.hid ((HD3.out.below hb4).more hb4.size)
      clear hb4 HS1 HD3 HB3 HCL HU HO
      have HO2 := Lib.hid (orders_law l k HM.out (by omega) n (by omega) HG.out A Ad cap cd w.heap.size w4.heap.size w4 (HA.out.below HB4.out) HB4.out.size HD4.out (Nat.le_refl _))
      go_wp2_with fail
      with_reducible refine HO2.out.mono ?_
      rintro e w5 ⟨rfl, hb5⟩
      have HB5 := Lib.hid (HB4.out.trans (hb5.mono HB4.out.size))
      have HD5 := Lib.hid ((HD4.out.below hb5).more hb5.size)
      clear hb5 HO2 HD4 HB4
      by_cases hk2 : k < 2
      · go_wp2_with fail
        go_ret
        exact ⟨rfl, HB5.out⟩
      have HP := Lib.hid (pick_any at_ ((k : Int) - 1) hat (by omega) (by omega))
      have hp1 := Int.emod_nonneg at_ (show (k : Int) - 1 ≠ 0 by omega)
      have hp2 := Int.emod_lt_of_pos at_ (show 0 < (k : Int) - 1 by omega)
      obtain ⟨p, hp⟩ := Int.eq_ofNat_of_zero_le hp1
      have hpe : pick at_ ((k : Int) - 1) = p := by unfold pick; rw [if_neg (by omega)]; exact hp
      rw [hp] at hp2
      rw [hpe] at HP
      clear hp hp1 hpe
      have hpk : p + 1 < k := by omega
      clear hp2
      go_wp2_with fail
      with_reducible refine (HP.out _).mono ?_
      rintro e w6 ⟨rfl, rfl⟩
      clear HP
      obtain ⟨b, o, rfl, hb0, h1, h2, h3⟩ := HA.out p (by rw [← HM.out]; omega)
      obtain ⟨_, _, e, _, h4, h5, h6⟩ := HA.out (p + 1) (by rw [← HM.out]; omega)
      injection e with e; injection e with e1 e2; subst e1 e2
      have T : Hid (∀ W, Below w5.heap.size w5 W → (W.cell? ⟨b, o + p * 3, none⟩ = some (.int .i64 (ev l p).t) ∧ W.cell? ⟨b, o + p * 3 + 1, none⟩ = some (.int .i64 (ev l p).k) ∧ W.cell? ⟨b, o + p * 3 + 2, none⟩ = some (.int .i64 (ev l p).o)) ∧ (W.cell? ⟨b, o + (p + 1) * 3, none⟩ = some (.int .i64 (ev l (p + 1)).t) ∧ W.cell? ⟨b, o + (p + 1) * 3 + 1, none⟩ = some (.int .i64 (ev l (p + 1)).k) ∧ W.cell? ⟨b, o + (p + 1) * 3 + 2, none⟩ = some (.int .i64 (ev l (p + 1)).o))) := Lib.hid (fun W hW => by
        have hX := HB5.out.trans (hW.mono HB5.out.size)
        exact ⟨⟨(hX.cell (p := ⟨b, o + p * 3, none⟩) hb0).trans h1, (hX.cell (p := ⟨b, o + p * 3 + 1, none⟩) hb0).trans h2, (hX.cell (p := ⟨b, o + p * 3 + 2, none⟩) hb0).trans h3⟩, (hX.cell (p := ⟨b, o + (p + 1) * 3, none⟩) hb0).trans h4, (hX.cell (p := ⟨b, o + (p + 1) * 3 + 1, none⟩) hb0).trans h5, (hX.cell (p := ⟨b, o + (p + 1) * 3 + 2, none⟩) hb0).trans h6⟩)
      clear h1 h2 h3 h4 h5 h6
      have DP : Hid (∀ W, Calls Try.prog 15 #[.agg #[.int .i64 (ev l p).t, .int .i64 (ev l p).k, .int .i64 (ev l p).o], .agg #[.int .i64 (ev l (p + 1)).t, .int .i64 (ev l (p + 1)).k, .int .i64 (ev l (p + 1)).o]] W fun e W' => ∃ v, e = .returned v ∧ Below W.heap.size W W' ∧ ttHolds (.inl (.bool (dpd (ev l p) (ev l (p + 1))))) v W') := Lib.hid (fun W =>
        (depends_any (ev l p) (ev l (p + 1)) W).mono fun e w' ⟨h1, h2⟩ => ⟨_, h1, h2, rfl⟩)
      have g1 : (0 : Int) ≤ p := by omega
      have g2 : (p : Int) < k := by omega
      have g3 : (p : Int) + 1 < k := by omega
      have hwp : IntKind.i64.wrap ((p : Int) + 1) = (p : Int) + 1 := wi64 _ (by omega) (by omega)
      have g4 : (0 : Int) ≤ (p : Int) + 1 := by omega
      go_upto_region 20 with (fail)
      rcases hdp : dpd (ev l p) (ev l (p + 1)) with _ | _
      · rw [hdp] at DP
        have HDP := Lib.hid hdp
        clear hdp
        apply wp_region_relH (H := []) 10 [.inl _, .inl _, .inl _, .inl _, .inl _, .inl _, .inl _, .inl _, .inl _, .inl _] (by kernel_rfl) (by kernel_rfl) (fun _ _ _ _ _ h => h) rfl
        simp only [List.take_succ_cons, List.take_zero, List.drop_succ_cons, List.drop_zero]
        iterate 9 (apply rel_isS; (intro W hW hf; obtain ⟨⟨hx1, hx2, hx3⟩, hx4, hx5, hx6⟩ := T.out W hW; go_simp; first | exact ⟨StayS.refl _ _, rfl⟩ | rfl); simp only [Act.put, List.setIfInBounds_toArray, List.set_cons_succ, List.set_cons_zero])
        apply rel_isS
        · intro W hW hf
          exact rel_callS hW rfl (by go_simp <;> first | rfl | exact ⟨rfl, rfl⟩ | exact ⟨rfl, rfl, rfl⟩) (DP.out W)
        simp only [Act.put, List.setIfInBounds_toArray, List.set_cons_succ, List.set_cons_zero]
        refine rel_endS ?_
        intro W hW hf
        try simp only [Act.put, List.setIfInBounds_toArray, List.set_cons_succ, List.set_cons_zero]
        refine wpList_nil ?_
        have HW := Lib.hid hW
        clear hW hf
        have HB6 := Lib.hid (HB5.out.trans (HW.out.mono HB5.out.size))
        have HD6 := Lib.hid ((HD5.out.below HW.out).more HW.out.size)
        have HCP := Lib.hid (copy_events l (by have := HM.out; omega) (some ⟨b, o, none⟩) cap W ((HA.out.below HB6.out).more HB6.out.size) (fun h => by cases h))
        rw [← HM.out] at HCP
        go_wp2_with fail
        with_reducible refine HCP.out.mono ?_
        rintro e w7 ⟨v, rfl, hv, hb7⟩
        have HB7 := Lib.hid (HB6.out.trans (hb7.mono HB6.out.size))
        have HB7w := Lib.hid hb7
        have T7 := Lib.hid (T.out w7 (HW.out.trans (hb7.mono HW.out.size)))
        clear hb7 HCP HD5
        rcases hv.2 with ⟨rfl, h0⟩ | ⟨g, c7, cur, rfl, hg1, hg, hc1, hc2, hsz, htk⟩
        · omega
        go_upto_region 23 with (fail)
        obtain ⟨⟨r1, r2, r3⟩, r4, r5, r6⟩ := T7.out
        have hbg : b ≠ g := by have := HB6.out.size; omega
        have hgb : g ≠ b := fun e => hbg e.symm
        have rd : ∀ j u, (evcells l)[j]? = some u → w7.cell? ⟨g, j, none⟩ = some u := fun j u hu => by
          rw [cell_blk hg]
          rw [← htk, List.getElem?_take] at hu
          split at hu
          · simpa using hu
          · cases hu
        have gt : ∀ j, j < k * 3 → (evcells l)[j]? = some (evc (ev l (j / 3)) (j % 3)) := fun j hj => evcells_get l j (by have := HM.out; omega)
        have s1 := rd (p * 3) _ (gt _ (by omega))
        have s2 := rd (p * 3 + 1) _ (gt _ (by omega))
        have s3 := rd (p * 3 + 2) _ (gt _ (by omega))
        have s4 := rd ((p + 1) * 3) _ (gt _ (by omega))
        have s5 := rd ((p + 1) * 3 + 1) _ (gt _ (by omega))
        have s6 := rd ((p + 1) * 3 + 2) _ (gt _ (by omega))
        have fz : ∀ j, w7.frozen? ⟨g, j, none⟩ = false := fun j => free_blk hg j
        have HCUR := Lib.hid hg
        have HTK := Lib.hid htk
        have HSZ := Lib.hid hsz
        clear rd gt hg htk hsz T
        go_region
        have HSW := Lib.hid (sw6_evs (B := w7.heap.size) HCUR.out HTK.out HM.out hpk (by have := HSZ.out; have := Nat.mul_le_mul_right 3 hc1; omega) (lt_blk HCUR.out))
        have HGR := Lib.hid (sw6_grown w7 g p (p + 1) (ev l p) (ev l (p + 1)))
        unfold sw6 at HSW HGR
        generalize hW8 : World.drew _ = w8 at *
        have HB8 : Hid (Below w.heap.size w w8) := Lib.hid (HB7.out.grown HGR.out HB7.out.size (by intro q e; injection e with e; have := HB6.out.size; omega))
        have HBW8 : Hid (Below W.heap.size W w8) := Lib.hid (HB7w.out.grown HGR.out HB7w.out.size (by intro q e; injection e with e; omega))
        have HD8 := Lib.hid (HD6.out.below HBW8.out)
        have HSZ8 : Hid (w7.heap.size ≤ w8.heap.size) := Lib.hid HGR.out.size
        have HWR8 := Lib.hid (wrong_swL HWR.out p (by have := HM.out; omega))
        have HCL8 := Lib.hid (clocks_any (swL l p) (by rw [swL_length]; have := HM.out; omega) n (some ⟨g, 0, none⟩) c7 (by rw [swL_length]; have := HM.out; omega) w8 (HSW.out.more HSZ8.out))
        rw [swL_length, ← HM.out] at HCL8
        clear r1 r2 r3 r4 r5 r6 s1 s2 s3 s4 s5 s6 fz hW8
        go_wp2_with fail
        with_reducible refine HCL8.out.mono ?_
        rintro e w9 ⟨hb9, hcase⟩
        have HB9w := Lib.hid (HBW8.out.trans (hb9.mono HBW8.out.size))
        have HB9 := Lib.hid (HB8.out.trans (hb9.mono HB8.out.size))
        have HD9 := Lib.hid (HD6.out.below HB9w.out)
        clear hb9 HCL8 HD8
        rcases hcase with ⟨hw9, _⟩ | ⟨_, v9, g9, cur9, rfl, hv9, hg9a, hg9, hc9⟩
        · exact absurd HWR8.out hw9
        rw [swL_length, ← HM.out, Int.toNat_natCast] at hv9
        rw [swL_length, ← HM.out, Int.toNat_natCast] at hc9
        rcases hv9.2 with ⟨rfl, h0⟩ | ⟨b9, c9, rw9, rfl, hb9a, hb9, hb9c, hb9d, hb9s, hb9t⟩
        · omega
        have HG9 := Lib.hid hg9; have HC9 := Lib.hid hc9; have HB9r := Lib.hid hb9; have HT9 := Lib.hid hb9t; have HS9 := Lib.hid hb9s
        have rd : ∀ j u, (rowVs g9 n k)[j]? = some u → w9.cell? ⟨b9, j, none⟩ = some u := fun j u hu => by
          rw [cell_blk hb9]
          rw [← hb9t, List.getElem?_take] at hu
          split at hu
          · simpa using hu
          · cases hu
        have s1 := rd p _ (rowVs_get g9 n k p (by omega))
        have s2 := rd (p + 1) _ (rowVs_get g9 n k (p + 1) (by omega))
        have fz : ∀ j, w9.frozen? ⟨b9, j, none⟩ = false := fun j => free_blk hb9 j
        clear rd hv9 hg9 hc9 hb9 hb9t hb9s
        unfold rowV at s1 s2
        generalize hq1 : p * n = q1 at *
        generalize hq2 : (p + 1) * n = q2 at *
        go_upto_region 27 with (fail)
        go_region
        have HCK := Lib.hid (sw2_clk (l := swL l p) HB9r.out HG9.out HT9.out (by rw [swL_length]; exact HM.out) hpk (by have := HS9.out; omega) HC9.out)
        have HGR9 := Lib.hid (sw2_grown w9 b9 p (p + 1) (rowV g9 n p) (rowV g9 n (p + 1)))
        unfold sw2 rowV at HCK HGR9
        rw [hq1, hq2] at HCK HGR9
        generalize hW10 : World.drew _ = w10 at *
        have HB10 : Hid (Below w.heap.size w w10) := Lib.hid (HB9.out.grown HGR9.out HB9.out.size (by intro q e; injection e with e; have := HB8.out.size; omega))
        have HBW10 : Hid (Below W.heap.size W w10) := Lib.hid (HB9w.out.grown HGR9.out HB9w.out.size (by intro q e; injection e with e; have := HBW8.out.size; omega))
        have HSZ10 : Hid (w9.heap.size ≤ w10.heap.size) := Lib.hid HGR9.out.size
        have HS10 := Lib.hid (same_lists k n (by omega) (by omega) (fun i t => clk (swL l p) (sw p i) t) (clk l) (fun i _ t _ => (clk_swap l (swL l p) p (ev_swL l p (by have := HM.out; omega)) HDP.out (sw p i) t).trans (by rw [sw_sw])) (some ⟨b9, 0, none⟩) Ad c9 cd w10.heap.size w10 (HCK.out.more HSZ10.out) ((HD6.out.below HBW10.out).more HBW10.out.size) (Nat.le_refl _))
        clear s1 s2 fz hW10
        go_wp2_with fail
        with_reducible refine HS10.out.mono ?_
        rintro e w11 ⟨rfl, hb11⟩
        have HB11 := Lib.hid (HB10.out.trans (hb11.mono HB10.out.size))
        clear hb11
        go_wp2_with fail
        go_ret
        exact ⟨rfl, HB11.out⟩
      · rw [hdp] at DP
        clear hdp
        apply wp_region_relH (H := []) 10 [.inl _, .inl _, .inl _, .inl _, .inl _, .inl _, .inl _, .inl _, .inl _, .inl _] (by kernel_rfl) (by kernel_rfl) (fun _ _ _ _ _ h => h) rfl
        simp only [List.take_succ_cons, List.take_zero, List.drop_succ_cons, List.drop_zero]
        iterate 9 (apply rel_isS; (intro W hW hf; obtain ⟨⟨hx1, hx2, hx3⟩, hx4, hx5, hx6⟩ := T.out W hW; go_simp; first | exact ⟨StayS.refl _ _, rfl⟩ | rfl); simp only [Act.put, List.setIfInBounds_toArray, List.set_cons_succ, List.set_cons_zero])
        apply rel_isS
        · intro W hW hf
          exact rel_callS hW rfl (by go_simp <;> first | rfl | exact ⟨rfl, rfl⟩ | exact ⟨rfl, rfl, rfl⟩) (DP.out W)
        simp only [Act.put, List.setIfInBounds_toArray, List.set_cons_succ, List.set_cons_zero]
        refine rel_endS ?_
        intro W hW hf
        try simp only [Act.put, List.setIfInBounds_toArray, List.set_cons_succ, List.set_cons_zero]
        refine wpList_nil ?_
        have HW := Lib.hid hW
        clear hW hf
        go_wp2_with fail
        go_ret
        exact ⟨rfl, HB5.out.trans (HW.out.mono HB5.out.size)⟩
end Go.Proofs.Ytmllmfjdbfikoaa
