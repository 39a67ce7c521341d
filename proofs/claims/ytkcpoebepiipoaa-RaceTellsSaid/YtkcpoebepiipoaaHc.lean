/- assizeref13.Heads. -/
import Derived.Test.YtkcpoebepiipoaaHa
import Derived.Test.YtkcpoebepiipoaaHb
set_option linter.unusedSimpArgs false
set_option linter.unusedVariables false
namespace Go.Proofs.Ytkcpoebepiipoaa
open Go.RowKit

set_option maxRecDepth 100000 in
set_option maxHeartbeats 8000000 in
theorem heads_any (l : List Ev) (m : Nat) (hm : m = l.length) (hl : m ≤ 2000) (A : Option Addr) (cap : Nat) (w : World) (hA : Evs w w.heap.size A l) :
    Calls Try.prog 29 #[.slice A m cap] w fun e w' => ∃ v γ, e = .returned v ∧ BMat w' w.heap.size v m (fun j => j) (fun j k => rc (fun a b => dpd (ev l a) (ev l b)) k j) γ ∧ Below w.heap.size w w' := by
  have HA := Lib.hid hA; have HM := Lib.hid hm
  clear hA hm
  obtain ⟨R, hR⟩ : ∃ R, R = (fun a b => dpd (ev l a) (ev l b)) := ⟨_, rfl⟩
  rw [← hR]
  have HR := Lib.hid hR
  clear hR
  go_enter Try.func29, Try.ntmps29
  go_wp2_with fail
  go_loopw [3, 4] (fun ov jv wr => ∃ (j : Nat) (γ : Nat → Nat), j ≤ m ∧ jv = .int .i64 j ∧ BMat wr w.heap.size ov j (fun j => j) (fun j k => rc R k j) γ ∧ Below w.heap.size w wr) (fun _ jv _ => m - (intOf jv).toNat)
  case atStart => exact ⟨0, fun _ => 0, by omega, rfl, ⟨World.ownsRow_nil _ _ _ _, fun j hj => by omega⟩, Below.refl _ _⟩
  case round =>
    obtain ⟨j, γ, hj, rfl, hL, hb⟩ := hrel
    have HL := Lib.hid hL; have HB := Lib.hid hb
    clear hL hb
    by_cases hlt : j < m
    · obtain ⟨Ao, co, rfl, _, _, _⟩ := own_rd HL.out.1
      have hmk := fun W => run_make_el EB (j) (j) (by simp) (by omega) (by omega) W
      go_upto_region 7 with (fail)
      have hbw : w.heap.size ≤ wr.heap.size := HB.out.size
      have HQ0 := Lib.hid (RowQ.made wr (j))
      have HL1 := Lib.hid (HL.out.ext (below_alloc wr (.cells (Array.replicate (j) (.bool false)) 4)))
      have HB1 := Lib.hid (HB.out.trans ((below_alloc wr (.cells (Array.replicate (j) (.bool false)) 4)).mono HB.out.size))
      have HNE : Hid (∀ j', j' < j → γ j' ≠ wr.heap.size) := Lib.hid (fun j' hj' e => by
        obtain ⟨_, cur, h1, _⟩ := HL.out.2 j' hj'
        have := lt_blk h1; omega)
      have hs1 : (wr.alloc (.cells (Array.replicate (j) (.bool false)) 4)).heap.size = wr.heap.size + 1 := by simp
      generalize hge : wr.heap.size = g at *
      generalize wr.alloc (.cells (Array.replicate (j) (.bool false)) 4) = w1 at *
      have HBM : Hid (∀ W, w1.grownBy W (some g) → BMat W w.heap.size (.slice Ao j co) j (fun j => j) (fun j k => rc R k j) γ) := Lib.hid (fun W h => by
        obtain ⟨cur, h1, _⟩ := HQ0.out.row
        exact HL1.out.turned h1 HNE.out h)
      have HBW : Hid (∀ W, w1.grownBy W (some g) → Below w.heap.size w W) := Lib.hid (fun W h => HB1.out.grown h (by omega) (fun k e => by cases e; exact hbw))
      clear HL HB HL1 HB1 hmk hge
      go_loopw [6] (fun iv wq => ∃ t : Nat, t ≤ j ∧ iv = .int .i64 ((t : Int) - 1) ∧ RowQ w1 wq g (j) (dsc R j t)) (fun iv _ => (intOf iv + 1).toNat)
      case atStart => exact ⟨j, Nat.le_refl _, rfl, HQ0.out.congr (fun k _ => (dsc_top R j k).symm)⟩
      case round =>
        obtain ⟨t, ht, hiv, hq⟩ := hrel
        have HQ := Lib.hid hq
        clear hq
        cases t with
        | zero =>
          have hiv2 := hiv.trans (show Value.int .i64 (((0 : Nat) : Int) - 1) = .int .i64 (-1) by congr 1)
          subst hiv2
          clear hiv
          have HX := Lib.hid (HBM.out _ HQ.out.grown)
          have HY := Lib.hid (HBW.out _ HQ.out.grown)
          go_wp2_with (at_builtin; refine wpList_append_one0 EBB rfl (.tmp 56) (.tmp 58) rfl w.heap.size (brow g (j)) rfl _ j (bvs γ (fun j => j) j) rfl HX.out.1 rfl (by omega) (by omega) w (Nat.le_refl _) HY.out ?_; intro v5 w5 h2 h3 h4 h5; clear h5; have O5 := Lib.hid h2; have HB5 := Lib.hid h3; have HG5 := Lib.hid h4; clear h2 h3 h4)
          go_roundw
          case rel =>
            refine ⟨j + 1, fun k => if k = j then g else γ k, by omega, by go_num, ⟨?_, fun j' hj' => ?_⟩, HB5.out⟩
            · rw [bvs_succ, bvs_congr (γ' := γ) (fun k hk => if_neg (by omega)), if_pos rfl]; exact O5.out
            · dsimp only
              by_cases e : j' = j
              · subst e
                obtain ⟨cur, h1, h2, h3⟩ := HQ.out.row
                rw [if_pos rfl]
                exact ⟨hbw, cur, (HG5.out.block _ (lt_blk h1) (fun e => HX.out.not_row h1 e.symm)).trans h1, h2, fun t ht => by rw [← dsc_full]; exact h3 t ht⟩
              · rw [if_neg e]
                exact HX.out.grown HG5.out j' (by omega)
          case measure => simp [intOf] <;> omega
        | succ i =>
          have hiv2 := hiv.trans (show Value.int .i64 (((i + 1 : Nat) : Int) - 1) = .int .i64 (i : Int) by congr 1 <;> omega)
          subst hiv2
          clear hiv
          have hij : i < j := by omega
          have him : i < m := by omega
          obtain ⟨b, off, rfl, hbl, c1, c2, c3⟩ := HA.out i (by rw [← HM.out]; exact him)
          obtain ⟨_, _, e3, _, d1, d2, d3⟩ := HA.out j (by rw [← HM.out]; exact hlt)
          injection e3 with e3; injection e3 with e1 e2; subst e1 e2
          have HC : Hid (∀ W, Below wr.heap.size wr W → W.cell? ⟨b, off + i * 3, none⟩ = some (.int .i64 (ev l i).t) ∧ W.cell? ⟨b, off + i * 3 + 1, none⟩ = some (.int .i64 (ev l i).k) ∧ W.cell? ⟨b, off + i * 3 + 2, none⟩ = some (.int .i64 (ev l i).o) ∧ W.cell? ⟨b, off + j * 3, none⟩ = some (.int .i64 (ev l j).t) ∧ W.cell? ⟨b, off + j * 3 + 1, none⟩ = some (.int .i64 (ev l j).k) ∧ W.cell? ⟨b, off + j * 3 + 2, none⟩ = some (.int .i64 (ev l j).o)) :=
            Lib.hid fun W h => by
              have hB2 := HBW.out _ HQ.out.grown
              have h' := hB2.trans (h.mono hB2.size)
              exact ⟨(h'.cell (p := ⟨b, _, none⟩) hbl).trans c1, (h'.cell (p := ⟨b, _, none⟩) hbl).trans c2, (h'.cell (p := ⟨b, _, none⟩) hbl).trans c3, (h'.cell (p := ⟨b, _, none⟩) hbl).trans d1, (h'.cell (p := ⟨b, _, none⟩) hbl).trans d2, (h'.cell (p := ⟨b, _, none⟩) hbl).trans d3⟩
          clear c1 c2 c3 d1 d2 d3
          have HF := Lib.hid (fun W => refdep_any (ev l i) (ev l j) W)
          have HRv : Hid (R i j = dpd (ev l i) (ev l j)) := Lib.hid (by rw [HR.out])
          simp only [ev_eta] at HF
          generalize dpd (ev l i) (ev l j) = fb at *
          generalize ev l i = ei at *
          generalize ev l j = ej at *
          cases fb
          · go_upto_region 9 with (fail)
            apply wp_region_relH (H := []) 10 [(Sum.inl _ : TT), (Sum.inl _ : TT), (Sum.inl _ : TT), (Sum.inl _ : TT), (Sum.inl _ : TT), (Sum.inl _ : TT), (Sum.inl _ : TT), (Sum.inl _ : TT), (Sum.inl _ : TT), (Sum.inl _ : TT)] (by kernel_rfl) (by kernel_rfl) (fun _ _ _ _ _ h => h) rfl
            simp only [List.take_succ_cons, List.take_zero, List.drop_succ_cons, List.drop_zero]
            iterate 8 (apply rel_isS; (intro W hW hf; obtain ⟨x1, x2, x3, y1, y2, y3⟩ := HC.out W hW; go_simp; first | exact ⟨StayS.refl _ _, rfl⟩ | rfl); simp only [Act.put, List.setIfInBounds_toArray, List.set_cons_succ, List.set_cons_zero])
            apply rel_isS
            · intro W hW hf
              exact rel_callS hW rfl (by go_simp <;> first | rfl | exact ⟨rfl, rfl⟩ | exact ⟨rfl, rfl, rfl⟩) ((HF.out W).mono fun e w'' h => ⟨_, h.1, h.2, rfl⟩)
            simp only [Act.put, List.setIfInBounds_toArray, List.set_cons_succ, List.set_cons_zero]
            iterate 1 (apply rel_isS; (intro W hW hf; go_simp; first | exact ⟨StayS.refl _ _, rfl⟩ | rfl); simp only [Act.put, List.setIfInBounds_toArray, List.set_cons_succ, List.set_cons_zero])
            refine rel_endS ?_
            intro W hW hf
            try simp only [Act.put, List.setIfInBounds_toArray, List.set_cons_succ, List.set_cons_zero]
            have HQW := Lib.hid ((HQ.out.ext hW).congr (S' := dsc R j i) (fun k _ => by rw [dsc_step R j i k hij, HRv.out]; simp))
            clear hW hf
            go_wp2_with fail
            go_roundw
            case rel => exact ⟨i, by omega, by first | rfl | go_num, HQW.out⟩
            case measure => simp [intOf] <;> omega
          · go_upto_region 9 with (fail)
            apply wp_region_relH (H := []) 10 [(Sum.inl _ : TT), (Sum.inl _ : TT), (Sum.inl _ : TT), (Sum.inl _ : TT), (Sum.inl _ : TT), (Sum.inl _ : TT), (Sum.inl _ : TT), (Sum.inl _ : TT), (Sum.inl _ : TT), (Sum.inl _ : TT)] (by kernel_rfl) (by kernel_rfl) (fun _ _ _ _ _ h => h) rfl
            simp only [List.take_succ_cons, List.take_zero, List.drop_succ_cons, List.drop_zero]
            iterate 8 (apply rel_isS; (intro W hW hf; obtain ⟨x1, x2, x3, y1, y2, y3⟩ := HC.out W hW; go_simp; first | exact ⟨StayS.refl _ _, rfl⟩ | rfl); simp only [Act.put, List.setIfInBounds_toArray, List.set_cons_succ, List.set_cons_zero])
            apply rel_isS
            · intro W hW hf
              exact rel_callS hW rfl (by go_simp <;> first | rfl | exact ⟨rfl, rfl⟩ | exact ⟨rfl, rfl, rfl⟩) ((HF.out W).mono fun e w'' h => ⟨_, h.1, h.2, rfl⟩)
            simp only [Act.put, List.setIfInBounds_toArray, List.set_cons_succ, List.set_cons_zero]
            iterate 1 (apply rel_isS; (intro W hW hf; go_simp; first | exact ⟨StayS.refl _ _, rfl⟩ | rfl); simp only [Act.put, List.setIfInBounds_toArray, List.set_cons_succ, List.set_cons_zero])
            refine rel_endS ?_
            intro W hW hf
            try simp only [Act.put, List.setIfInBounds_toArray, List.set_cons_succ, List.set_cons_zero]
            have HQW := Lib.hid (HQ.out.ext hW)
            have HRt : Hid (R i j = true) := Lib.hid HRv.out
            clear hW hf
            refine wpList_nil ?_
            have HS : Hid (∀ k, dsc R j i k = (dsc R j (i + 1) k || (decide (k = i) || rc R k i))) := Lib.hid (fun k => by rw [dsc_step R j i k hij, HRt.out, Bool.true_and])
            generalize hbase : dsc R j (i + 1) = base at *
            obtain ⟨q1, q2⟩ := HQW.out.cell (show i < j by omega)
            have HQ1 := Lib.hid (HQW.out.write true (show i < j by omega))
            go_upto_region 12 with (fail)
            clear q1 q2
            go_loopw [7] (fun kv wk => ∃ s : Nat, s ≤ i ∧ kv = .int .i64 s ∧ RowQ w1 wk g (j) (fun k => (base k || decide (k = i)) || (decide (k < s) && rc R k i))) (fun kv _ => i - (intOf kv).toNat)
            case atStart => exact ⟨0, by omega, rfl, HQ1.out.congr (fun k _ => by by_cases e : k = i <;> simp [e])⟩
            case round =>
              obtain ⟨s, hs, rfl, hq2⟩ := hrel
              have HQ2 := Lib.hid hq2
              clear hq2
              by_cases hlt2 : s < i
              · obtain ⟨q1, q2⟩ := HQ2.out.cell (show s < j by omega)
                obtain ⟨b', o', c', e, m1, m2⟩ := (HBM.out _ HQ2.out.grown).row hij
                injection e with e1 _ e2
                subst e1 e2
                have m3 := m2 s (show s < i by omega)
                have e0 : ((base s || decide (s = i)) || (decide (s < s) && rc R s i)) = base s := by simp [show ¬ s = i by omega]
                rw [e0] at q1
                clear e0 m2
                have HW2 : Hid (∀ z, z = (base s || rc R s i) → RowQ w1 (wr.setCell ⟨g, s, none⟩ (.bool z)) g (j) (fun k => (base k || decide (k = i)) || (decide (k < s + 1) && rc R k i))) := Lib.hid (fun z hz => (HQ2.out.write z (show s < j by omega)).congr (fun k _ => by
                  by_cases e : k = s
                  · subst e; rw [if_pos rfl, hz]; simp [show ¬ k = i by omega]
                  · rw [if_neg e]
                    by_cases e2 : k < s
                    · simp [e2, show k < s + 1 by omega]
                    · simp [e2, show ¬ k < s + 1 by omega]))
                generalize base s = x at *
                generalize rc R s i = y at *
                cases x
                all_goals
                  go_wp2_with fail
                  go_roundw
                  case rel => exact ⟨s + 1, by omega, by go_num, HW2.out _ (by simp)⟩
                  case measure => simp [intOf] <;> omega
              · obtain rfl : s = i := by omega
                have HQ3 := Lib.hid (HQ2.out.congr (S' := dsc R j s) (fun k _ => by
                  rw [HS.out k, ← hbase]
                  by_cases e : k < s
                  · simp [e, Bool.or_assoc]
                  · have : rc R k s = false := by
                      cases h : rc R k s with
                      | false => rfl
                      | true => exact absurd (rc_lt h) e
                    simp [e, this]))
                go_wp2_with fail
                go_roundw
                case rel => exact ⟨s, by omega, by first | rfl | go_num, HQ3.out⟩
                case measure => simp [intOf] <;> omega
    · obtain rfl : j = m := by omega
      go_wp2_with fail
      go_ret
      exact ⟨_, γ, rfl, HL.out, HB.out⟩
end Go.Proofs.Ytkcpoebepiipoaa
