/- assizeref14.Data. -/
import Derived.Test.YtkcpoebepiipoaaLh
import Derived.Test.YtkcpoebepiipoaaHd
import Derived.Test.YtkcpoebepiipoaaGf
set_option linter.unusedSimpArgs false
set_option linter.unusedVariables false
namespace Go.Proofs.Ytkcpoebepiipoaa
open Go.RowKit

theorem dat_unl {a b : Ev} (ht : a.t ≠ b.t) : dat a b = (isVr a.k && isVr b.k && dpd a b) := by
  have key : ∀ k, isVr k = true → isMx k = false := fun k h => by
    simp only [isVr, decide_eq_true_eq] at h
    simp only [isMx, decide_eq_false_iff_not]
    omega
  unfold dat dpd
  rw [decide_eq_false ht, Bool.false_or]
  cases h1 : isVr a.k with
  | false => simp
  | true =>
    cases h2 : isVr b.k with
    | false => simp
    | true =>
      rw [key _ h1, key _ h2]
      simp only [Bool.and_self, Bool.false_or, Bool.true_and]
      congr 1
      rw [Bool.eq_iff_iff]
      simp
set_option maxRecDepth 100000 in
set_option maxHeartbeats 8000000 in
theorem refdata_any (l : List Ev) (m : Nat) (hm : m = l.length) (hl : m ≤ 2000) (n : Int) (A : Option Addr) (cap : Nat) (B : Nat) (w : World) (hA : Evs w B A l) (hB : B ≤ w.heap.size) :
    Calls Try.prog 11 #[.slice A m cap, .int .i64 n] w (PairsP w (wrongE l n) (dataL l n)) := by
  have HA := Lib.hid (hA.more hB); have HM := Lib.hid hm
  clear hA hm
  have HW := Lib.hid (refwrong_any l m HM.out (by omega) n A cap w.heap.size w HA.out (Nat.le_refl _))
  by_cases hw : wrongE l n = 0
  · have HE : Hid (dataL l n = sifted (dataB l) (upTo l m)) := Lib.hid (by unfold dataL; rw [if_pos hw, HM.out])
    rw [hw] at HW ⊢
    clear hw
    go_enter Try.func11, Try.ntmps11
    go_wp2_with fail
    with_reducible refine HW.out.mono ?_
    rintro r w2 ⟨rfl, hb2⟩
    have HB2 := Lib.hid hb2
    have HD := Lib.hid (locks_any l m HM.out hl A cap w2 ((HA.out.below hb2).more hb2.size))
    clear hb2
    go_wp2_with fail
    with_reducible refine HD.out.mono ?_
    rintro r w4 ⟨hv, γ, rfl, hM4, hb4⟩
    have HM4 := Lib.hid hM4
    have HB4 := Lib.hid (HB2.out.trans (hb4.mono HB2.out.size))
    obtain ⟨Ah, ch, rfl, _, _, _⟩ := own_rd hM4.1
    clear hM4 hb4 HD
    go_wp2_with fail
    go_loopw [8, 9] (fun ov jv wr => ∃ j : Nat, j ≤ m ∧ jv = .int .i64 j ∧ wr.ownsRow w4.heap.size 45 2 ov (sifted (dataB l) (upTo l j)).length (prcells (sifted (dataB l) (upTo l j))) ∧ Below w4.heap.size w4 wr) (fun _ jv _ => m - (intOf jv).toNat)
    case atStart => exact ⟨0, by omega, rfl, World.ownsRow_nil _ _ _ _, Below.refl _ _⟩
    case round =>
      obtain ⟨j, hj, rfl, ho, hb⟩ := hrel
      have HO := Lib.hid ho; have HB := Lib.hid hb
      clear ho hb
      by_cases hlt : j < m
      · go_upto_region 10 with (fail)
        go_loopw [8, 10] (fun ov iv wr => ∃ i : Nat, i ≤ j ∧ iv = .int .i64 i ∧ wr.ownsRow w4.heap.size 45 2 ov (sifted (dataB l) (upTo l j ++ upRow l j i)).length (prcells (sifted (dataB l) (upTo l j ++ upRow l j i))) ∧ Below w4.heap.size w4 wr) (fun _ iv _ => j - (intOf iv).toNat)
        case atStart => exact ⟨0, by omega, rfl, by simpa [upRow_zero] using HO.out, HB.out⟩
        case round =>
          clear HO HB
          obtain ⟨i, hi, rfl, ho, hb⟩ := hrel
          have HO := Lib.hid ho; have HBi := Lib.hid hb
          clear ho hb
          by_cases hij : i < j
          · have him : i < m := by omega
            have hcount : (sifted (dataB l) (upTo l j ++ upRow l j i)).length ≤ 4004000 := by
              have e1 : (sifted (dataB l) (upTo l j ++ upRow l j i)).length ≤ (upTo l j ++ upRow l j i).length := List.length_filter_le _ _
              have e2 := upTo_length l j
              have e3 : (upRow l j i).length ≤ i := by
                unfold upRow
                rw [List.length_map]
                exact Nat.le_trans (List.length_filter_le _ _) (by simp)
              have e4 : j * j ≤ 2000 * 2000 := Nat.mul_le_mul (by omega) (by omega)
              rw [List.length_append] at e1
              omega
            obtain ⟨b', o', c', e, m1, m2⟩ := (HM4.out.ext HBi.out).row hlt
            injection e with e1 _ e2
            subst e1 e2
            have m3 := m2 i hij
            obtain ⟨b, off, rfl, hbl, k1, k2, k3⟩ := HA.out i (by rw [← HM.out]; exact him)
            obtain ⟨_, _, e3, _, d1, d2, d3⟩ := HA.out j (by rw [← HM.out]; exact hlt)
            injection e3 with e3; injection e3 with e1 e2; subst e1 e2
            have HC : Hid (∀ W, Below wr.heap.size wr W → W.cell? ⟨b, off + i * 3, none⟩ = some (.int .i64 (ev l i).t) ∧ W.cell? ⟨b, off + i * 3 + 1, none⟩ = some (.int .i64 (ev l i).k) ∧ W.cell? ⟨b, off + i * 3 + 2, none⟩ = some (.int .i64 (ev l i).o) ∧ W.cell? ⟨b, off + j * 3, none⟩ = some (.int .i64 (ev l j).t) ∧ W.cell? ⟨b, off + j * 3 + 1, none⟩ = some (.int .i64 (ev l j).k) ∧ W.cell? ⟨b, off + j * 3 + 2, none⟩ = some (.int .i64 (ev l j).o) ∧ W.cell? ⟨b', o' + j, none⟩ = some (.slice (some ⟨γ j, 0, none⟩) j j) ∧ W.cell? ⟨γ j, i, none⟩ = some (.bool (rc (fun a b => fol (ev l a) (ev l b)) i j))) :=
              Lib.hid fun W h => by
                have hB2 := HB4.out.trans (HBi.out.mono HB4.out.size)
                have h' := hB2.trans (h.mono hB2.size)
                exact ⟨(h'.cell (p := ⟨b, _, none⟩) hbl).trans k1, (h'.cell (p := ⟨b, _, none⟩) hbl).trans k2, (h'.cell (p := ⟨b, _, none⟩) hbl).trans k3, (h'.cell (p := ⟨b, _, none⟩) hbl).trans d1, (h'.cell (p := ⟨b, _, none⟩) hbl).trans d2, (h'.cell (p := ⟨b, _, none⟩) hbl).trans d3, (h.cell (p := ⟨b', _, none⟩) (World.block_lt_of_cell? _ _ m1)).trans m1, (h.cell (p := ⟨γ j, _, none⟩) (World.block_lt_of_cell? _ _ m3)).trans m3⟩
            have HU : Hid (unl2 l i j = decide ((ev l i).t ≠ (ev l j).t)) := Lib.hid rfl
            have HUY := Lib.hid (upRow_yes l j i)
            have HUN := Lib.hid (upRow_no l j i)
            clear k1 k2 k3 d1 d2 d3 m1 m2 m3
            have HNO : Hid ((unl2 l i j && (dataB l) i j) = false → sifted (dataB l) (upTo l j ++ upRow l j (i + 1)) = sifted (dataB l) (upTo l j ++ upRow l j i)) := Lib.hid (fun h => by
              cases hu : unl2 l i j with
              | false => rw [upRow_no l j i hu]
              | true => rw [hu, Bool.true_and] at h; rw [upRow_yes l j i hu, ← List.append_assoc, sifted_no _ _ _ h])
            have HYES : Hid ((unl2 l i j && (dataB l) i j) = true → (sifted (dataB l) (upTo l j ++ upRow l j (i + 1))).length = (sifted (dataB l) (upTo l j ++ upRow l j i)).length + 1 ∧ prcells (sifted (dataB l) (upTo l j ++ upRow l j (i + 1))) = prcells (sifted (dataB l) (upTo l j ++ upRow l j i)) ++ [.int .i64 (i : Int), .int .i64 (j : Int)]) := Lib.hid (fun h => by
              simp only [Bool.and_eq_true] at h
              rw [upRow_yes l j i h.1, ← List.append_assoc, sifted_yes _ _ _ h.2, prcells_app, List.length_append]
              exact ⟨rfl, rfl⟩)
            clear HUY HUN
            have HF := Lib.hid (fun W => refdep_any (ev l i) (ev l j) W)
            have HVa := Lib.hid (fun W => variable_any (ev l i) W)
            have HVb := Lib.hid (fun W => variable_any (ev l j) W)
            have HL : Hid (lk l i j = rc (fun a b => fol (ev l a) (ev l b)) i j) := Lib.hid rfl
            have HV : Hid ((ev l i).t ≠ (ev l j).t → dataB l i j = (isVr (ev l i).k && isVr (ev l j).k && dpd (ev l i) (ev l j) && !lk l i j)) := Lib.hid (fun ht => by unfold dataB; rw [dat_unl ht])
            simp only [ev_eta] at HF HVa HVb
            rw [HL.out] at HV
            generalize rc (fun a b => fol (ev l a) (ev l b)) i j = kk at *
            generalize isVr (ev l i).k = va at *
            generalize isVr (ev l j).k = vb at *
            generalize dpd (ev l i) (ev l j) = fb at *
            generalize ev l i = ei at *
            generalize ev l j = ej at *
            clear HL
            by_cases ht : ei.t = ej.t
            · skip
              have t1 : (ei.t == ej.t) = true := by rw [beq_iff_eq]; exact ht
              have t2 : decide (ei.t = ej.t) = true := decide_eq_true ht
              have HNO := Lib.hid (HNO.out (by rw [HU.out]; simp [ht]))
              go_upto_region 12 with (fail)
              apply wp_region_relH (H := []) 46 [(Sum.inl _ : TT), (Sum.inl _ : TT), (Sum.inl _ : TT), (Sum.inl _ : TT), (Sum.inl _ : TT), (Sum.inl _ : TT), (Sum.inl _ : TT), (Sum.inl _ : TT), (Sum.inl _ : TT), (Sum.inl _ : TT), (Sum.inl _ : TT), (Sum.inl _ : TT), (Sum.inl _ : TT), (Sum.inl _ : TT), (Sum.inl _ : TT), (Sum.inl _ : TT), (Sum.inl _ : TT), (Sum.inl _ : TT), (Sum.inl _ : TT), (Sum.inl _ : TT), (Sum.inl _ : TT), (Sum.inl _ : TT), (Sum.inl _ : TT), (Sum.inl _ : TT), (Sum.inl _ : TT), (Sum.inl _ : TT), (Sum.inl _ : TT), (Sum.inl _ : TT), (Sum.inl _ : TT), (Sum.inl _ : TT), (Sum.inl _ : TT), (Sum.inl _ : TT), (Sum.inl _ : TT), (Sum.inl _ : TT), (Sum.inl _ : TT), (Sum.inl _ : TT), (Sum.inl _ : TT), (Sum.inl _ : TT), (Sum.inl _ : TT), (Sum.inl _ : TT), (Sum.inl _ : TT), (Sum.inl _ : TT), (Sum.inl _ : TT), (Sum.inl _ : TT), (Sum.inl _ : TT), (Sum.inl _ : TT)] (by kernel_rfl) (by kernel_rfl) (fun _ _ _ _ _ h => h) rfl
              simp only [List.take_succ_cons, List.take_zero, List.drop_succ_cons, List.drop_zero]
              iterate 46 (apply rel_isS; (intro W hW hf; obtain ⟨x1, x2, x3, y1, y2, y3, z1, z2⟩ := HC.out W hW; go_simp; first | exact ⟨StayS.refl _ _, rfl⟩ | rfl); simp only [Act.put, List.setIfInBounds_toArray, List.set_cons_succ, List.set_cons_zero])
              refine rel_endS ?_
              intro W hW hf
              try simp only [Act.put, List.setIfInBounds_toArray, List.set_cons_succ, List.set_cons_zero]
              have HB5 := Lib.hid (HBi.out.trans (hW.mono HBi.out.size))
              have HO5 := Lib.hid (own_belowS HO.out hW)
              clear hW hf
              go_wp2_with fail
              go_roundw
              case rel => exact ⟨i + 1, by omega, by go_num, by rw [HNO.out]; exact HO5.out, HB5.out⟩
              case measure => simp [intOf]; omega
            · skip
              have t1 : (ei.t == ej.t) = false := by rw [beq_eq_false_iff_ne]; exact ht
              have t2 : decide (ei.t = ej.t) = false := decide_eq_false ht
              have HV := Lib.hid (HV.out ht)
              cases va
              · skip
                have HNO := Lib.hid (HNO.out (by rw [HU.out, HV.out]; simp [ht]))
                go_upto_region 12 with (fail)
                apply wp_region_relH (H := []) 46 [(Sum.inl _ : TT), (Sum.inl _ : TT), (Sum.inl _ : TT), (Sum.inl _ : TT), (Sum.inl _ : TT), (Sum.inl _ : TT), (Sum.inl _ : TT), (Sum.inl _ : TT), (Sum.inl _ : TT), (Sum.inl _ : TT), (Sum.inl _ : TT), (Sum.inl _ : TT), (Sum.inl _ : TT), (Sum.inl _ : TT), (Sum.inl _ : TT), (Sum.inl _ : TT), (Sum.inl _ : TT), (Sum.inl _ : TT), (Sum.inl _ : TT), (Sum.inl _ : TT), (Sum.inl _ : TT), (Sum.inl _ : TT), (Sum.inl _ : TT), (Sum.inl _ : TT), (Sum.inl _ : TT), (Sum.inl _ : TT), (Sum.inl _ : TT), (Sum.inl _ : TT), (Sum.inl _ : TT), (Sum.inl _ : TT), (Sum.inl _ : TT), (Sum.inl _ : TT), (Sum.inl _ : TT), (Sum.inl _ : TT), (Sum.inl _ : TT), (Sum.inl _ : TT), (Sum.inl _ : TT), (Sum.inl _ : TT), (Sum.inl _ : TT), (Sum.inl _ : TT), (Sum.inl _ : TT), (Sum.inl _ : TT), (Sum.inl _ : TT), (Sum.inl _ : TT), (Sum.inl _ : TT), (Sum.inl _ : TT)] (by kernel_rfl) (by kernel_rfl) (fun _ _ _ _ _ h => h) rfl
                simp only [List.take_succ_cons, List.take_zero, List.drop_succ_cons, List.drop_zero]
                iterate 16 (apply rel_isS; (intro W hW hf; obtain ⟨x1, x2, x3, y1, y2, y3, z1, z2⟩ := HC.out W hW; go_simp; first | exact ⟨StayS.refl _ _, rfl⟩ | rfl); simp only [Act.put, List.setIfInBounds_toArray, List.set_cons_succ, List.set_cons_zero])
                apply rel_isS
                · intro W hW hf
                  exact rel_callS hW (by first | rfl | (go_simp; done) | (go_simp; simp)) (by go_simp <;> first | rfl | exact ⟨rfl, rfl⟩ | exact ⟨rfl, rfl, rfl⟩) ((HVa.out W).mono fun e w'' h => ⟨_, h.1, h.2, rfl⟩)
                simp only [Act.put, List.setIfInBounds_toArray, List.set_cons_succ, List.set_cons_zero]
                iterate 29 (apply rel_isS; (intro W hW hf; obtain ⟨x1, x2, x3, y1, y2, y3, z1, z2⟩ := HC.out W hW; go_simp; first | exact ⟨StayS.refl _ _, rfl⟩ | rfl); simp only [Act.put, List.setIfInBounds_toArray, List.set_cons_succ, List.set_cons_zero])
                refine rel_endS ?_
                intro W hW hf
                try simp only [Act.put, List.setIfInBounds_toArray, List.set_cons_succ, List.set_cons_zero]
                have HB5 := Lib.hid (HBi.out.trans (hW.mono HBi.out.size))
                have HO5 := Lib.hid (own_belowS HO.out hW)
                clear hW hf
                go_wp2_with fail
                go_roundw
                case rel => exact ⟨i + 1, by omega, by go_num, by rw [HNO.out]; exact HO5.out, HB5.out⟩
                case measure => simp [intOf]; omega
              · cases vb
                · skip
                  have HNO := Lib.hid (HNO.out (by rw [HU.out, HV.out]; simp [ht]))
                  go_upto_region 12 with (fail)
                  apply wp_region_relH (H := []) 46 [(Sum.inl _ : TT), (Sum.inl _ : TT), (Sum.inl _ : TT), (Sum.inl _ : TT), (Sum.inl _ : TT), (Sum.inl _ : TT), (Sum.inl _ : TT), (Sum.inl _ : TT), (Sum.inl _ : TT), (Sum.inl _ : TT), (Sum.inl _ : TT), (Sum.inl _ : TT), (Sum.inl _ : TT), (Sum.inl _ : TT), (Sum.inl _ : TT), (Sum.inl _ : TT), (Sum.inl _ : TT), (Sum.inl _ : TT), (Sum.inl _ : TT), (Sum.inl _ : TT), (Sum.inl _ : TT), (Sum.inl _ : TT), (Sum.inl _ : TT), (Sum.inl _ : TT), (Sum.inl _ : TT), (Sum.inl _ : TT), (Sum.inl _ : TT), (Sum.inl _ : TT), (Sum.inl _ : TT), (Sum.inl _ : TT), (Sum.inl _ : TT), (Sum.inl _ : TT), (Sum.inl _ : TT), (Sum.inl _ : TT), (Sum.inl _ : TT), (Sum.inl _ : TT), (Sum.inl _ : TT), (Sum.inl _ : TT), (Sum.inl _ : TT), (Sum.inl _ : TT), (Sum.inl _ : TT), (Sum.inl _ : TT), (Sum.inl _ : TT), (Sum.inl _ : TT), (Sum.inl _ : TT), (Sum.inl _ : TT)] (by kernel_rfl) (by kernel_rfl) (fun _ _ _ _ _ h => h) rfl
                  simp only [List.take_succ_cons, List.take_zero, List.drop_succ_cons, List.drop_zero]
                  iterate 16 (apply rel_isS; (intro W hW hf; obtain ⟨x1, x2, x3, y1, y2, y3, z1, z2⟩ := HC.out W hW; go_simp; first | exact ⟨StayS.refl _ _, rfl⟩ | rfl); simp only [Act.put, List.setIfInBounds_toArray, List.set_cons_succ, List.set_cons_zero])
                  apply rel_isS
                  · intro W hW hf
                    exact rel_callS hW (by first | rfl | (go_simp; done) | (go_simp; simp)) (by go_simp <;> first | rfl | exact ⟨rfl, rfl⟩ | exact ⟨rfl, rfl, rfl⟩) ((HVa.out W).mono fun e w'' h => ⟨_, h.1, h.2, rfl⟩)
                  simp only [Act.put, List.setIfInBounds_toArray, List.set_cons_succ, List.set_cons_zero]
                  iterate 6 (apply rel_isS; (intro W hW hf; obtain ⟨x1, x2, x3, y1, y2, y3, z1, z2⟩ := HC.out W hW; go_simp; first | exact ⟨StayS.refl _ _, rfl⟩ | rfl); simp only [Act.put, List.setIfInBounds_toArray, List.set_cons_succ, List.set_cons_zero])
                  apply rel_isS
                  · intro W hW hf
                    exact rel_callS hW (by first | rfl | (go_simp; done) | (go_simp; simp)) (by go_simp <;> first | rfl | exact ⟨rfl, rfl⟩ | exact ⟨rfl, rfl, rfl⟩) ((HVb.out W).mono fun e w'' h => ⟨_, h.1, h.2, rfl⟩)
                  simp only [Act.put, List.setIfInBounds_toArray, List.set_cons_succ, List.set_cons_zero]
                  iterate 22 (apply rel_isS; (intro W hW hf; obtain ⟨x1, x2, x3, y1, y2, y3, z1, z2⟩ := HC.out W hW; go_simp; first | exact ⟨StayS.refl _ _, rfl⟩ | rfl); simp only [Act.put, List.setIfInBounds_toArray, List.set_cons_succ, List.set_cons_zero])
                  refine rel_endS ?_
                  intro W hW hf
                  try simp only [Act.put, List.setIfInBounds_toArray, List.set_cons_succ, List.set_cons_zero]
                  have HB5 := Lib.hid (HBi.out.trans (hW.mono HBi.out.size))
                  have HO5 := Lib.hid (own_belowS HO.out hW)
                  clear hW hf
                  go_wp2_with fail
                  go_roundw
                  case rel => exact ⟨i + 1, by omega, by go_num, by rw [HNO.out]; exact HO5.out, HB5.out⟩
                  case measure => simp [intOf]; omega
                · cases fb
                  · skip
                    have HNO := Lib.hid (HNO.out (by rw [HU.out, HV.out]; simp [ht]))
                    go_upto_region 12 with (fail)
                    apply wp_region_relH (H := []) 46 [(Sum.inl _ : TT), (Sum.inl _ : TT), (Sum.inl _ : TT), (Sum.inl _ : TT), (Sum.inl _ : TT), (Sum.inl _ : TT), (Sum.inl _ : TT), (Sum.inl _ : TT), (Sum.inl _ : TT), (Sum.inl _ : TT), (Sum.inl _ : TT), (Sum.inl _ : TT), (Sum.inl _ : TT), (Sum.inl _ : TT), (Sum.inl _ : TT), (Sum.inl _ : TT), (Sum.inl _ : TT), (Sum.inl _ : TT), (Sum.inl _ : TT), (Sum.inl _ : TT), (Sum.inl _ : TT), (Sum.inl _ : TT), (Sum.inl _ : TT), (Sum.inl _ : TT), (Sum.inl _ : TT), (Sum.inl _ : TT), (Sum.inl _ : TT), (Sum.inl _ : TT), (Sum.inl _ : TT), (Sum.inl _ : TT), (Sum.inl _ : TT), (Sum.inl _ : TT), (Sum.inl _ : TT), (Sum.inl _ : TT), (Sum.inl _ : TT), (Sum.inl _ : TT), (Sum.inl _ : TT), (Sum.inl _ : TT), (Sum.inl _ : TT), (Sum.inl _ : TT), (Sum.inl _ : TT), (Sum.inl _ : TT), (Sum.inl _ : TT), (Sum.inl _ : TT), (Sum.inl _ : TT), (Sum.inl _ : TT)] (by kernel_rfl) (by kernel_rfl) (fun _ _ _ _ _ h => h) rfl
                    simp only [List.take_succ_cons, List.take_zero, List.drop_succ_cons, List.drop_zero]
                    iterate 16 (apply rel_isS; (intro W hW hf; obtain ⟨x1, x2, x3, y1, y2, y3, z1, z2⟩ := HC.out W hW; go_simp; first | exact ⟨StayS.refl _ _, rfl⟩ | rfl); simp only [Act.put, List.setIfInBounds_toArray, List.set_cons_succ, List.set_cons_zero])
                    apply rel_isS
                    · intro W hW hf
                      exact rel_callS hW (by first | rfl | (go_simp; done) | (go_simp; simp)) (by go_simp <;> first | rfl | exact ⟨rfl, rfl⟩ | exact ⟨rfl, rfl, rfl⟩) ((HVa.out W).mono fun e w'' h => ⟨_, h.1, h.2, rfl⟩)
                    simp only [Act.put, List.setIfInBounds_toArray, List.set_cons_succ, List.set_cons_zero]
                    iterate 6 (apply rel_isS; (intro W hW hf; obtain ⟨x1, x2, x3, y1, y2, y3, z1, z2⟩ := HC.out W hW; go_simp; first | exact ⟨StayS.refl _ _, rfl⟩ | rfl); simp only [Act.put, List.setIfInBounds_toArray, List.set_cons_succ, List.set_cons_zero])
                    apply rel_isS
                    · intro W hW hf
                      exact rel_callS hW (by first | rfl | (go_simp; done) | (go_simp; simp)) (by go_simp <;> first | rfl | exact ⟨rfl, rfl⟩ | exact ⟨rfl, rfl, rfl⟩) ((HVb.out W).mono fun e w'' h => ⟨_, h.1, h.2, rfl⟩)
                    simp only [Act.put, List.setIfInBounds_toArray, List.set_cons_succ, List.set_cons_zero]
                    iterate 10 (apply rel_isS; (intro W hW hf; obtain ⟨x1, x2, x3, y1, y2, y3, z1, z2⟩ := HC.out W hW; go_simp; first | exact ⟨StayS.refl _ _, rfl⟩ | rfl); simp only [Act.put, List.setIfInBounds_toArray, List.set_cons_succ, List.set_cons_zero])
                    apply rel_isS
                    · intro W hW hf
                      exact rel_callS hW (by first | rfl | (go_simp; done) | (go_simp; simp)) (by go_simp <;> first | rfl | exact ⟨rfl, rfl⟩ | exact ⟨rfl, rfl, rfl⟩) ((HF.out W).mono fun e w'' h => ⟨_, h.1, h.2, rfl⟩)
                    simp only [Act.put, List.setIfInBounds_toArray, List.set_cons_succ, List.set_cons_zero]
                    iterate 11 (apply rel_isS; (intro W hW hf; obtain ⟨x1, x2, x3, y1, y2, y3, z1, z2⟩ := HC.out W hW; go_simp; first | exact ⟨StayS.refl _ _, rfl⟩ | rfl); simp only [Act.put, List.setIfInBounds_toArray, List.set_cons_succ, List.set_cons_zero])
                    refine rel_endS ?_
                    intro W hW hf
                    try simp only [Act.put, List.setIfInBounds_toArray, List.set_cons_succ, List.set_cons_zero]
                    have HB5 := Lib.hid (HBi.out.trans (hW.mono HBi.out.size))
                    have HO5 := Lib.hid (own_belowS HO.out hW)
                    clear hW hf
                    go_wp2_with fail
                    go_roundw
                    case rel => exact ⟨i + 1, by omega, by go_num, by rw [HNO.out]; exact HO5.out, HB5.out⟩
                    case measure => simp [intOf]; omega
                  · cases kk
                    · skip
                      have HYES := Lib.hid (HYES.out (by rw [HU.out, HV.out]; simp [ht]))
                      go_upto_region 12 with (fail)
                      apply wp_region_relH (H := []) 46 [(Sum.inl _ : TT), (Sum.inl _ : TT), (Sum.inl _ : TT), (Sum.inl _ : TT), (Sum.inl _ : TT), (Sum.inl _ : TT), (Sum.inl _ : TT), (Sum.inl _ : TT), (Sum.inl _ : TT), (Sum.inl _ : TT), (Sum.inl _ : TT), (Sum.inl _ : TT), (Sum.inl _ : TT), (Sum.inl _ : TT), (Sum.inl _ : TT), (Sum.inl _ : TT), (Sum.inl _ : TT), (Sum.inl _ : TT), (Sum.inl _ : TT), (Sum.inl _ : TT), (Sum.inl _ : TT), (Sum.inl _ : TT), (Sum.inl _ : TT), (Sum.inl _ : TT), (Sum.inl _ : TT), (Sum.inl _ : TT), (Sum.inl _ : TT), (Sum.inl _ : TT), (Sum.inl _ : TT), (Sum.inl _ : TT), (Sum.inl _ : TT), (Sum.inl _ : TT), (Sum.inl _ : TT), (Sum.inl _ : TT), (Sum.inl _ : TT), (Sum.inl _ : TT), (Sum.inl _ : TT), (Sum.inl _ : TT), (Sum.inl _ : TT), (Sum.inl _ : TT), (Sum.inl _ : TT), (Sum.inl _ : TT), (Sum.inl _ : TT), (Sum.inl _ : TT), (Sum.inl _ : TT), (Sum.inl _ : TT)] (by kernel_rfl) (by kernel_rfl) (fun _ _ _ _ _ h => h) rfl
                      simp only [List.take_succ_cons, List.take_zero, List.drop_succ_cons, List.drop_zero]
                      iterate 16 (apply rel_isS; (intro W hW hf; obtain ⟨x1, x2, x3, y1, y2, y3, z1, z2⟩ := HC.out W hW; go_simp; first | exact ⟨StayS.refl _ _, rfl⟩ | rfl); simp only [Act.put, List.setIfInBounds_toArray, List.set_cons_succ, List.set_cons_zero])
                      apply rel_isS
                      · intro W hW hf
                        exact rel_callS hW (by first | rfl | (go_simp; done) | (go_simp; simp)) (by go_simp <;> first | rfl | exact ⟨rfl, rfl⟩ | exact ⟨rfl, rfl, rfl⟩) ((HVa.out W).mono fun e w'' h => ⟨_, h.1, h.2, rfl⟩)
                      simp only [Act.put, List.setIfInBounds_toArray, List.set_cons_succ, List.set_cons_zero]
                      iterate 6 (apply rel_isS; (intro W hW hf; obtain ⟨x1, x2, x3, y1, y2, y3, z1, z2⟩ := HC.out W hW; go_simp; first | exact ⟨StayS.refl _ _, rfl⟩ | rfl); simp only [Act.put, List.setIfInBounds_toArray, List.set_cons_succ, List.set_cons_zero])
                      apply rel_isS
                      · intro W hW hf
                        exact rel_callS hW (by first | rfl | (go_simp; done) | (go_simp; simp)) (by go_simp <;> first | rfl | exact ⟨rfl, rfl⟩ | exact ⟨rfl, rfl, rfl⟩) ((HVb.out W).mono fun e w'' h => ⟨_, h.1, h.2, rfl⟩)
                      simp only [Act.put, List.setIfInBounds_toArray, List.set_cons_succ, List.set_cons_zero]
                      iterate 10 (apply rel_isS; (intro W hW hf; obtain ⟨x1, x2, x3, y1, y2, y3, z1, z2⟩ := HC.out W hW; go_simp; first | exact ⟨StayS.refl _ _, rfl⟩ | rfl); simp only [Act.put, List.setIfInBounds_toArray, List.set_cons_succ, List.set_cons_zero])
                      apply rel_isS
                      · intro W hW hf
                        exact rel_callS hW (by first | rfl | (go_simp; done) | (go_simp; simp)) (by go_simp <;> first | rfl | exact ⟨rfl, rfl⟩ | exact ⟨rfl, rfl, rfl⟩) ((HF.out W).mono fun e w'' h => ⟨_, h.1, h.2, rfl⟩)
                      simp only [Act.put, List.setIfInBounds_toArray, List.set_cons_succ, List.set_cons_zero]
                      iterate 11 (apply rel_isS; (intro W hW hf; obtain ⟨x1, x2, x3, y1, y2, y3, z1, z2⟩ := HC.out W hW; go_simp; first | exact ⟨StayS.refl _ _, rfl⟩ | rfl); simp only [Act.put, List.setIfInBounds_toArray, List.set_cons_succ, List.set_cons_zero])
                      refine rel_endS ?_
                      intro W hW hf
                      try simp only [Act.put, List.setIfInBounds_toArray, List.set_cons_succ, List.set_cons_zero]
                      have HB5 := Lib.hid (HBi.out.trans (hW.mono HBi.out.size))
                      have HO5 := Lib.hid (own_belowS HO.out hW)
                      clear hW hf
                      refine wpList_nil ?_
                      generalize hz : (sifted (dataB l) (upTo l j ++ upRow l j i)).length = z at *
                      go_wp2_with (at_builtin; refine wpList_append_oneS EPS [.int .i64 (i : Int), .int .i64 (j : Int)] _ rfl rfl (.tmp 76) (.tmp 80) rfl w4.heap.size (by intro u hu; simp at hu; rcases hu with rfl | rfl <;> rfl) 1 rfl _ z _ rfl HO5.out rfl (by omega) (by omega) w4 (Nat.le_refl _) HB5.out ?_; intro v6 w6 h2 h3 h4 h5; clear h4 h5; have O6 := Lib.hid h2; have B6 := Lib.hid h3; clear h2 h3; obtain ⟨A6, c6, rfl, _, _, _⟩ := own_rdS O6.out)
                      go_roundw
                      case rel => exact ⟨i + 1, by omega, by go_num, by rw [HYES.out.1, HYES.out.2]; exact O6.out, B6.out⟩
                      case measure => simp [intOf]; omega
                    · skip
                      have HNO := Lib.hid (HNO.out (by rw [HU.out, HV.out]; simp [ht]))
                      go_upto_region 12 with (fail)
                      apply wp_region_relH (H := []) 46 [(Sum.inl _ : TT), (Sum.inl _ : TT), (Sum.inl _ : TT), (Sum.inl _ : TT), (Sum.inl _ : TT), (Sum.inl _ : TT), (Sum.inl _ : TT), (Sum.inl _ : TT), (Sum.inl _ : TT), (Sum.inl _ : TT), (Sum.inl _ : TT), (Sum.inl _ : TT), (Sum.inl _ : TT), (Sum.inl _ : TT), (Sum.inl _ : TT), (Sum.inl _ : TT), (Sum.inl _ : TT), (Sum.inl _ : TT), (Sum.inl _ : TT), (Sum.inl _ : TT), (Sum.inl _ : TT), (Sum.inl _ : TT), (Sum.inl _ : TT), (Sum.inl _ : TT), (Sum.inl _ : TT), (Sum.inl _ : TT), (Sum.inl _ : TT), (Sum.inl _ : TT), (Sum.inl _ : TT), (Sum.inl _ : TT), (Sum.inl _ : TT), (Sum.inl _ : TT), (Sum.inl _ : TT), (Sum.inl _ : TT), (Sum.inl _ : TT), (Sum.inl _ : TT), (Sum.inl _ : TT), (Sum.inl _ : TT), (Sum.inl _ : TT), (Sum.inl _ : TT), (Sum.inl _ : TT), (Sum.inl _ : TT), (Sum.inl _ : TT), (Sum.inl _ : TT), (Sum.inl _ : TT), (Sum.inl _ : TT)] (by kernel_rfl) (by kernel_rfl) (fun _ _ _ _ _ h => h) rfl
                      simp only [List.take_succ_cons, List.take_zero, List.drop_succ_cons, List.drop_zero]
                      iterate 16 (apply rel_isS; (intro W hW hf; obtain ⟨x1, x2, x3, y1, y2, y3, z1, z2⟩ := HC.out W hW; go_simp; first | exact ⟨StayS.refl _ _, rfl⟩ | rfl); simp only [Act.put, List.setIfInBounds_toArray, List.set_cons_succ, List.set_cons_zero])
                      apply rel_isS
                      · intro W hW hf
                        exact rel_callS hW (by first | rfl | (go_simp; done) | (go_simp; simp)) (by go_simp <;> first | rfl | exact ⟨rfl, rfl⟩ | exact ⟨rfl, rfl, rfl⟩) ((HVa.out W).mono fun e w'' h => ⟨_, h.1, h.2, rfl⟩)
                      simp only [Act.put, List.setIfInBounds_toArray, List.set_cons_succ, List.set_cons_zero]
                      iterate 6 (apply rel_isS; (intro W hW hf; obtain ⟨x1, x2, x3, y1, y2, y3, z1, z2⟩ := HC.out W hW; go_simp; first | exact ⟨StayS.refl _ _, rfl⟩ | rfl); simp only [Act.put, List.setIfInBounds_toArray, List.set_cons_succ, List.set_cons_zero])
                      apply rel_isS
                      · intro W hW hf
                        exact rel_callS hW (by first | rfl | (go_simp; done) | (go_simp; simp)) (by go_simp <;> first | rfl | exact ⟨rfl, rfl⟩ | exact ⟨rfl, rfl, rfl⟩) ((HVb.out W).mono fun e w'' h => ⟨_, h.1, h.2, rfl⟩)
                      simp only [Act.put, List.setIfInBounds_toArray, List.set_cons_succ, List.set_cons_zero]
                      iterate 10 (apply rel_isS; (intro W hW hf; obtain ⟨x1, x2, x3, y1, y2, y3, z1, z2⟩ := HC.out W hW; go_simp; first | exact ⟨StayS.refl _ _, rfl⟩ | rfl); simp only [Act.put, List.setIfInBounds_toArray, List.set_cons_succ, List.set_cons_zero])
                      apply rel_isS
                      · intro W hW hf
                        exact rel_callS hW (by first | rfl | (go_simp; done) | (go_simp; simp)) (by go_simp <;> first | rfl | exact ⟨rfl, rfl⟩ | exact ⟨rfl, rfl, rfl⟩) ((HF.out W).mono fun e w'' h => ⟨_, h.1, h.2, rfl⟩)
                      simp only [Act.put, List.setIfInBounds_toArray, List.set_cons_succ, List.set_cons_zero]
                      iterate 11 (apply rel_isS; (intro W hW hf; obtain ⟨x1, x2, x3, y1, y2, y3, z1, z2⟩ := HC.out W hW; go_simp; first | exact ⟨StayS.refl _ _, rfl⟩ | rfl); simp only [Act.put, List.setIfInBounds_toArray, List.set_cons_succ, List.set_cons_zero])
                      refine rel_endS ?_
                      intro W hW hf
                      try simp only [Act.put, List.setIfInBounds_toArray, List.set_cons_succ, List.set_cons_zero]
                      have HB5 := Lib.hid (HBi.out.trans (hW.mono HBi.out.size))
                      have HO5 := Lib.hid (own_belowS HO.out hW)
                      clear hW hf
                      go_wp2_with fail
                      go_roundw
                      case rel => exact ⟨i + 1, by omega, by go_num, by rw [HNO.out]; exact HO5.out, HB5.out⟩
                      case measure => simp [intOf]; omega
          · obtain rfl : i = j := by omega
            go_wp2_with fail
            go_roundw
            case rel => exact ⟨i + 1, by omega, by go_num, by rw [upTo_succ]; exact HO.out, HBi.out⟩
            case measure => simp [intOf]; omega
      · obtain rfl : j = m := by omega
        go_wp2_with fail
        go_ret2
        exact ⟨HB4.out.trans (HB.out.mono HB4.out.size), _, rfl, by rw [HE.out]; exact owns_less HO.out HB4.out.size⟩
  · have HE : Hid (dataL l n = []) := Lib.hid (by unfold dataL; rw [if_neg hw])
    have hx : ((wrongE l n : Nat) : Int) = 0 → False := by omega
    have hx2 : decide (((wrongE l n : Nat) : Int) = 0) = false := by rw [decide_eq_false_iff_not]; exact hx
    have hx3 : (((wrongE l n : Nat) : Int) == 0) = false := by rw [beq_eq_false_iff_ne]; exact hx
    clear hw
    generalize wrongE l n = er at *
    go_enter Try.func11, Try.ntmps11
    go_wp2_with fail
    with_reducible refine HW.out.mono ?_
    rintro r w2 ⟨rfl, hb2⟩
    have HB2 := Lib.hid hb2
    clear hb2
    go_wp2_with fail
    go_ret2
    exact ⟨HB2.out, _, rfl, by rw [HE.out]; exact World.ownsRow_nil _ _ _ _⟩
end Go.Proofs.Ytkcpoebepiipoaa
