/- code.typed, code.touches. -/
import Derived.Test.YtbmpjphemjponaaWf
set_option linter.unusedSimpArgs false
set_option linter.unusedVariables false
namespace Go.Proofs.Ytbmpjphemjponaa
open Go.RowKit

theorem ndOk_loc {ns nl nn mt : Int} {n : Nd} (h : ndOk ns nl nn mt n = true) (e : n.kind = 1) : ∃ j : Nat, n.arg = j ∧ (j : Int) < nl := by
  unfold ndOk ndArg wi at h
  rw [if_pos e] at h
  simp only [Bool.and_eq_true, decide_eq_true_eq] at h
  exact ⟨n.arg.toNat, by omega, by omega⟩
theorem ndOk_sh {ns nl nn mt : Int} {n : Nd} (h : ndOk ns nl nn mt n = true) (e : n.kind = 2) : ∃ j : Nat, n.arg = j ∧ (j : Int) < ns := by
  unfold ndOk ndArg wi at h
  rw [if_neg (by omega), if_pos e] at h
  simp only [Bool.and_eq_true, decide_eq_true_eq] at h
  exact ⟨n.arg.toNat, by omega, by omega⟩
theorem fit_one (s : List Int) (t : Int) : fitT s (some t) = (decide (s.length = 1) && decide (s.getD 0 0 = t)) := by
  match s with
  | [] => simp [fitT]
  | [a] => simp [fitT]
  | a :: b :: l => simp [fitT]
theorem wantT_1 {sh lo : List Vl} {n : Nd} (e : n.kind = 1) : wantT sh lo n = some (lo.getD n.arg.toNat default).t := if_pos e
theorem wantT_2 {sh lo : List Vl} {n : Nd} (e : n.kind = 2) : wantT sh lo n = some (sh.getD n.arg.toNat default).t := by unfold wantT; rw [if_neg (by omega), if_pos e]
theorem wantT_5 {sh lo : List Vl} {n : Nd} (e : n.kind = 5 ∨ n.kind = 6) : wantT sh lo n = some 2 := by unfold wantT; rw [if_neg (by omega), if_neg (by omega), if_pos e]
theorem wantT_n {sh lo : List Vl} {n : Nd} (h1 : n.kind ≠ 1) (h2 : n.kind ≠ 2) (h5 : n.kind ≠ 5) (h6 : n.kind ≠ 6) : wantT sh lo n = none := by unfold wantT; rw [if_neg h1, if_neg h2, if_neg (by omega)]
set_option maxRecDepth 100000 in
set_option maxHeartbeats 4000000 in
theorem typed_any (sh : List Vl) (bd : Bd) (nb nn : Nat) (mt : Int) (p q p2 q2 p3 : Slc) (n : Nd) (h1 : sh.length ≤ 4000000) (h2 : bd.locals.length ≤ 4000000) (h3 : n.code.length ≤ 4000000) (hin : n.code.all (inOk sh.length bd.locals.length) = true) (hok : ndOk sh.length bd.locals.length nn mt n = true) (B : Nat) (w : World)
    (hs : VlsAt w B p sh) (hl : VlsAt w B p2 bd.locals) (hc : InsAt w B p3 n.code) (hB : B ≤ w.heap.size) :
    Calls Try.prog 56 #[cav p q sh.length nb mt, cav p2 q2 bd.locals.length nn bd.stack, ndv n p3] w fun e w' => e = .returned (.bool (ndTy sh bd n)) ∧ Below w.heap.size w w' := by
  have HS := Lib.hid (fun W (h : Below w.heap.size w W) => stack_any sh bd.locals nb nn mt bd.stack p q p2 q2 p3 n h1 h2 h3 hin B W (hs.below (h.mono hB)) (hl.below (h.mono hB)) (hc.below (h.mono hB)) (Nat.le_trans hB h.size))
  have HR : Hid (ndTy sh bd n = match stkL sh bd.locals n.code [] 0 with
    | none => false
    | some (s, h) => if bd.stack < (h : Int) then false else fitT s (wantT sh bd.locals n)) := Lib.hid rfl
  have HK1 := Lib.hid (fun e => ndOk_loc hok e); have HK2 := Lib.hid (fun e => ndOk_sh hok e)
  have HW1 := Lib.hid (fun e => wantT_1 (sh := sh) (lo := bd.locals) (n := n) e)
  have HW2 := Lib.hid (fun e => wantT_2 (sh := sh) (lo := bd.locals) (n := n) e)
  have HW5 := Lib.hid (fun e => wantT_5 (sh := sh) (lo := bd.locals) (n := n) e)
  have HWn := Lib.hid (fun a b c d => wantT_n (sh := sh) (lo := bd.locals) (n := n) a b c d)
  have HL1 := Lib.hid hs; have HL2 := Lib.hid hl
  unfold cav ndv at *
  clear hin hok hs hl hc
  generalize ndTy sh bd n = res at *
  generalize wantT sh bd.locals n = wt at *
  obtain ⟨lo, st, nds⟩ := bd
  dsimp only at *
  generalize stkL sh lo n.code [] 0 = sr at *
  obtain ⟨cd, kind, arg, next, alt⟩ := n
  obtain ⟨A, cp⟩ := p; obtain ⟨A', cp'⟩ := q; obtain ⟨A2, cp2⟩ := p2; obtain ⟨A2', cp2'⟩ := q2; obtain ⟨A3, cp3⟩ := p3
  dsimp only at *
  generalize hm1 : sh.length = ns at *
  generalize hm2 : lo.length = nl at *
  generalize hm3 : cd.length = nc at *
  have M1 := Lib.hid hm1; have M2 := Lib.hid hm2; have M3 := Lib.hid hm3
  clear hm1 hm2 hm3
  go_enter Try.func56, Try.ntmps56
  go_upto_region 1 with (fail)
  obtain ⟨b0_, b1_, b2_, hb_⟩ := boxes3 w (.cells #[.slice A ns cp, .int .i64 mt, .slice A' nb cp'] 25) (.cells #[.slice A2 nl cp2, .int .i64 st, .slice A2' nn cp2'] 57) (.cells #[.slice A3 nc cp3, .int .i64 kind, .int .i64 arg, .int .i64 next, .int .i64 alt] 60)
  generalize ((w.alloc (.cells #[.slice A ns cp, .int .i64 mt, .slice A' nb cp'] 25)).alloc (.cells #[.slice A2 nl cp2, .int .i64 st, .slice A2' nn cp2'] 57)).alloc (.cells #[.slice A3 nc cp3, .int .i64 kind, .int .i64 arg, .int .i64 next, .int .i64 alt] 60) = w0 at *
  have T0 : Hid (∀ W, Below w0.heap.size w0 W → W.cell? ⟨w.heap.size, 0, none⟩ = some (.slice A ns cp) ∧ W.cell? ⟨w.heap.size, 1, none⟩ = some (.int .i64 mt) ∧ W.cell? ⟨w.heap.size, 2, none⟩ = some (.slice A' nb cp')) := Lib.hid (fun W hW => by have e := (hW.block _ (lt_blk b0_)).trans b0_; exact ⟨by rw [cell_blk e]; rfl, by rw [cell_blk e]; rfl, by rw [cell_blk e]; rfl⟩)
  have T1 : Hid (∀ W, Below w0.heap.size w0 W → W.cell? ⟨w.heap.size + 1, 0, none⟩ = some (.slice A2 nl cp2) ∧ W.cell? ⟨w.heap.size + 1, 1, none⟩ = some (.int .i64 st) ∧ W.cell? ⟨w.heap.size + 1, 2, none⟩ = some (.slice A2' nn cp2')) := Lib.hid (fun W hW => by have e := (hW.block _ (lt_blk b1_)).trans b1_; exact ⟨by rw [cell_blk e]; rfl, by rw [cell_blk e]; rfl, by rw [cell_blk e]; rfl⟩)
  have T2 : Hid (∀ W, Below w0.heap.size w0 W → W.cell? ⟨w.heap.size + 1 + 1, 0, none⟩ = some (.slice A3 nc cp3) ∧ W.cell? ⟨w.heap.size + 1 + 1, 1, none⟩ = some (.int .i64 kind) ∧ W.cell? ⟨w.heap.size + 1 + 1, 2, none⟩ = some (.int .i64 arg) ∧ W.cell? ⟨w.heap.size + 1 + 1, 3, none⟩ = some (.int .i64 next) ∧ W.cell? ⟨w.heap.size + 1 + 1, 4, none⟩ = some (.int .i64 alt)) := Lib.hid (fun W hW => by have e := (hW.block _ (lt_blk b2_)).trans b2_; exact ⟨by rw [cell_blk e]; rfl, by rw [cell_blk e]; rfl, by rw [cell_blk e]; rfl, by rw [cell_blk e]; rfl, by rw [cell_blk e]; rfl⟩)
  have BA := Lib.hid hb_
  clear hb_ b0_ b1_ b2_
  obtain ⟨a0, a1, a2⟩ := T0.out w0 (Below.refl _ _)
  obtain ⟨b0, b1, b2⟩ := T1.out w0 (Below.refl _ _)
  obtain ⟨c0, c1, c2, c3, c4⟩ := T2.out w0 (Below.refl _ _)
  go_wp2_with fail
  refine (HS.out _ BA.out).mono ?_
  rintro e w1 ⟨hst, hb1⟩
  clear a0 a1 a2 b0 b1 b2 c0 c1 c2 c3 c4 HS
  have T0 := Lib.hid (fun W (h : Below w1.heap.size w1 W) => T0.out W (hb1.trans (h.mono hb1.size)))
  have T1 := Lib.hid (fun W (h : Below w1.heap.size w1 W) => T1.out W (hb1.trans (h.mono hb1.size)))
  have T2 := Lib.hid (fun W (h : Below w1.heap.size w1 W) => T2.out W (hb1.trans (h.mono hb1.size)))
  have HB := Lib.hid (BA.out.trans (hb1.mono BA.out.size))
  clear hb1
  obtain ⟨b0, b1, b2⟩ := T1.out w1 (Below.refl _ _)
  obtain ⟨c0, c1, c2, c3, c4⟩ := T2.out w1 (Below.refl _ _)
  cases sr with
  | none =>
    have hst : e = .returned (.tuple #[.slice none 0 0, .int .i64 0, .bool false]) := hst
    subst hst
    go_wp2_with fail
    go_ret
    exact ⟨ret_bool HR.out.symm, HB.out⟩
  | some sh2 =>
    obtain ⟨s, h⟩ := sh2
    obtain ⟨hsl, v, rfl, hown⟩ : s.length ≤ 4000000 ∧ ∃ v, e = .returned (.tuple #[v, .int .i64 h, .bool true]) ∧ TyOwn w1 w0.heap.size v s := hst
    have HQ0 : Hid (res = if st < (h : Int) then false else fitT s wt) := Lib.hid HR.out
    have HO := Lib.hid hown
    clear hown HR
    by_cases hh : st < (h : Int)
    · have d1 : decide (st < (h : Int)) = true := decide_eq_true hh
      go_wp2_with fail
      go_ret
      exact ⟨ret_bool (by rw [HQ0.out, if_pos (by omega)]), HB.out⟩
    have d1 : decide (st < (h : Int)) = false := decide_eq_false hh
    have HQ1 : Hid (res = fitT s wt) := Lib.hid (HQ0.out.trans (if_neg hh))
    have HV : Hid (∃ A5 c5, v = .slice A5 s.length c5) := Lib.hid (by have h6 := own_rdS HO.out; obtain ⟨A5, c5, e, -, -, -⟩ := h6; exact ⟨A5, c5, e⟩)
    have HV2 : Hid (s.length = 1 → ∃ g cap, v = .slice (some ⟨g, 0, none⟩) 1 cap ∧ 1 ≤ cap ∧ ∀ W, Below w1.heap.size w1 W → W.cell? ⟨g, 0, none⟩ = some (.int .u8 (s.getD 0 0))) := Lib.hid (fun e => by
      obtain ⟨g, cap, h1, h2, h3⟩ := TyOwn.shape HO.out (by omega)
      rw [e] at h1 h2
      exact ⟨g, cap, h1, h2, fun W hW => h3 W hW 0 (by omega)⟩)
    have HF : Hid (∀ t, wt = some t → res = (decide (s.length = 1) && decide (s.getD 0 0 = t))) := Lib.hid (fun t e => by rw [HQ1.out, e, fit_one])
    have HF0 : Hid (wt = none → res = decide (s.length = 0)) := Lib.hid (fun e => by rw [HQ1.out, e]; rfl)
    clear HQ0 HQ1 hh HO
    generalize s.getD 0 0 = a at *
    generalize s.length = ls at *
    obtain ⟨A5, c5, rfl⟩ := HV.out
    clear HV
    by_cases g1 : kind = 1
    · subst g1
      obtain ⟨j, rfl, hj⟩ := HK1.out rfl
      have hj : j < nl := by omega
      have HQ : Hid (res = (decide (ls = 1) && decide (a = (lo.getD j default).t))) := Lib.hid (HF.out _ (HW1.out rfl))
      clear HK1 HK2 HW1 HW2 HW5 HWn HF HF0
      obtain ⟨b2', o2, rfl, hb2, l0, -⟩ := VlsAt.cells HL2.out (show j < lo.length by rw [M2.out]; exact hj)
      have HLT : Hid (∀ W, Below w1.heap.size w1 W → W.cell? ⟨b2', o2 + j * 2, none⟩ = some (.int .u8 (lo.getD j default).t)) := Lib.hid (fun W hW => ((HB.out.trans (hW.mono HB.out.size)).cell (p := ⟨b2', _, none⟩) (Nat.lt_of_lt_of_le hb2 hB)).trans l0)
      have HAR := Lib.hid (fun W hW => (T2.out W hW).2.2.1)
      have HSL := Lib.hid (fun W hW => (T1.out W hW).1)
      have HV : Hid (ls = 1 → _) := HV2
      clear HV2 l0
      generalize (lo.getD j default).t = lt at *
      go_upto_region 6 with (fail)
      clear b0 b1 b2 c0 c1 c2 c3 c4
      by_cases g : ls = 1
      rotate_left
      · have d : ((ls : Int) == 1) = false := by rw [beq_eq_false_iff_ne]; omega
        have HN := Lib.hid (HQ.out.trans (show _ = false by rw [decide_eq_false g]; rfl))
        apply wp_region_relH (H := []) 17 [(Sum.inl _ : TT), (Sum.inl _ : TT), (Sum.inl _ : TT), (Sum.inl _ : TT), (Sum.inl _ : TT), (Sum.inl _ : TT), (Sum.inl _ : TT), (Sum.inl _ : TT), (Sum.inl _ : TT), (Sum.inl _ : TT), (Sum.inl _ : TT), (Sum.inl _ : TT), (Sum.inl _ : TT), (Sum.inl _ : TT), (Sum.inl _ : TT), (Sum.inl _ : TT), (Sum.inl _ : TT)] (by kernel_rfl) (by kernel_rfl) (fun _ _ _ _ _ h => h) rfl
        simp only [List.take_succ_cons, List.take_zero, List.drop_succ_cons, List.drop_zero]
        iterate 17 (apply rel_isS; (intro W hW hf; go_simp; first | exact ⟨StayS.refl _ _, rfl⟩ | rfl); simp only [Act.put, List.setIfInBounds_toArray, List.set_cons_succ, List.set_cons_zero])
        refine rel_endS ?_
        intro W hW hf
        try simp only [Act.put, List.setIfInBounds_toArray, List.set_cons_succ, List.set_cons_zero]
        refine wpList_nil ?_
        clear hf
        go_wp2_with fail
        go_ret
        exact ⟨ret_bool HN.out.symm, HB.out.trans (hW.mono HB.out.size)⟩
      subst g
      have HCell := Lib.hid (HV.out rfl)
      clear HV
      obtain ⟨g, cap, hvv, hcap, hcell⟩ := HCell.out
      injection hvv with q1 q2 q3
      subst q1 q3
      have HN : Hid (res = decide (a = lt)) := Lib.hid HQ.out
      have HCE := Lib.hid hcell
      clear hcell HCell HQ
      generalize hq : decide (a = lt) = q at *
      have fq : (a == lt) = q := hq
      clear hq
      apply wp_region_relH (H := []) 17 [(Sum.inl _ : TT), (Sum.inl _ : TT), (Sum.inl _ : TT), (Sum.inl _ : TT), (Sum.inl _ : TT), (Sum.inl _ : TT), (Sum.inl _ : TT), (Sum.inl _ : TT), (Sum.inl _ : TT), (Sum.inl _ : TT), (Sum.inl _ : TT), (Sum.inl _ : TT), (Sum.inl _ : TT), (Sum.inl _ : TT), (Sum.inl _ : TT), (Sum.inl _ : TT), (Sum.inl _ : TT)] (by kernel_rfl) (by kernel_rfl) (fun _ _ _ _ _ h => h) rfl
      simp only [List.take_succ_cons, List.take_zero, List.drop_succ_cons, List.drop_zero]
      iterate 17 (apply rel_isS; (intro W hW hf; have u0 := HCE.out W hW; have u1 := HLT.out W hW; have u2 := HAR.out W hW; have u3 := HSL.out W hW; go_simp; first | exact ⟨StayS.refl _ _, rfl⟩ | rfl); simp only [Act.put, List.setIfInBounds_toArray, List.set_cons_succ, List.set_cons_zero])
      refine rel_endS ?_
      intro W hW hf
      try simp only [Act.put, List.setIfInBounds_toArray, List.set_cons_succ, List.set_cons_zero]
      refine wpList_nil ?_
      clear hf
      go_wp2_with fail
      go_ret
      exact ⟨ret_bool HN.out.symm, HB.out.trans (hW.mono HB.out.size)⟩
    by_cases g2 : kind = 2
    · subst g2
      obtain ⟨j, rfl, hj⟩ := HK2.out rfl
      have hj : j < ns := by omega
      have HQ : Hid (res = (decide (ls = 1) && decide (a = (sh.getD j default).t))) := Lib.hid (HF.out _ (HW2.out rfl))
      clear HK1 HK2 HW1 HW2 HW5 HWn HF HF0
      obtain ⟨b2', o2, rfl, hb2, l0, -⟩ := VlsAt.cells HL1.out (show j < sh.length by rw [M1.out]; exact hj)
      have HLT : Hid (∀ W, Below w1.heap.size w1 W → W.cell? ⟨b2', o2 + j * 2, none⟩ = some (.int .u8 (sh.getD j default).t)) := Lib.hid (fun W hW => ((HB.out.trans (hW.mono HB.out.size)).cell (p := ⟨b2', _, none⟩) (Nat.lt_of_lt_of_le hb2 hB)).trans l0)
      have HAR := Lib.hid (fun W hW => (T2.out W hW).2.2.1)
      have HSL := Lib.hid (fun W hW => (T0.out W hW).1)
      have HV : Hid (ls = 1 → _) := HV2
      clear HV2 l0
      generalize (sh.getD j default).t = lt at *
      go_upto_region 8 with (fail)
      clear b0 b1 b2 c0 c1 c2 c3 c4
      by_cases g : ls = 1
      rotate_left
      · have d : ((ls : Int) == 1) = false := by rw [beq_eq_false_iff_ne]; omega
        have HN := Lib.hid (HQ.out.trans (show _ = false by rw [decide_eq_false g]; rfl))
        apply wp_region_relH (H := []) 17 [(Sum.inl _ : TT), (Sum.inl _ : TT), (Sum.inl _ : TT), (Sum.inl _ : TT), (Sum.inl _ : TT), (Sum.inl _ : TT), (Sum.inl _ : TT), (Sum.inl _ : TT), (Sum.inl _ : TT), (Sum.inl _ : TT), (Sum.inl _ : TT), (Sum.inl _ : TT), (Sum.inl _ : TT), (Sum.inl _ : TT), (Sum.inl _ : TT), (Sum.inl _ : TT), (Sum.inl _ : TT)] (by kernel_rfl) (by kernel_rfl) (fun _ _ _ _ _ h => h) rfl
        simp only [List.take_succ_cons, List.take_zero, List.drop_succ_cons, List.drop_zero]
        iterate 17 (apply rel_isS; (intro W hW hf; go_simp; first | exact ⟨StayS.refl _ _, rfl⟩ | rfl); simp only [Act.put, List.setIfInBounds_toArray, List.set_cons_succ, List.set_cons_zero])
        refine rel_endS ?_
        intro W hW hf
        try simp only [Act.put, List.setIfInBounds_toArray, List.set_cons_succ, List.set_cons_zero]
        refine wpList_nil ?_
        clear hf
        go_wp2_with fail
        go_ret
        exact ⟨ret_bool HN.out.symm, HB.out.trans (hW.mono HB.out.size)⟩
      subst g
      have HCell := Lib.hid (HV.out rfl)
      clear HV
      obtain ⟨g, cap, hvv, hcap, hcell⟩ := HCell.out
      injection hvv with q1 q2 q3
      subst q1 q3
      have HN : Hid (res = decide (a = lt)) := Lib.hid HQ.out
      have HCE := Lib.hid hcell
      clear hcell HCell HQ
      generalize hq : decide (a = lt) = q at *
      have fq : (a == lt) = q := hq
      clear hq
      apply wp_region_relH (H := []) 17 [(Sum.inl _ : TT), (Sum.inl _ : TT), (Sum.inl _ : TT), (Sum.inl _ : TT), (Sum.inl _ : TT), (Sum.inl _ : TT), (Sum.inl _ : TT), (Sum.inl _ : TT), (Sum.inl _ : TT), (Sum.inl _ : TT), (Sum.inl _ : TT), (Sum.inl _ : TT), (Sum.inl _ : TT), (Sum.inl _ : TT), (Sum.inl _ : TT), (Sum.inl _ : TT), (Sum.inl _ : TT)] (by kernel_rfl) (by kernel_rfl) (fun _ _ _ _ _ h => h) rfl
      simp only [List.take_succ_cons, List.take_zero, List.drop_succ_cons, List.drop_zero]
      iterate 17 (apply rel_isS; (intro W hW hf; have u0 := HCE.out W hW; have u1 := HLT.out W hW; have u2 := HAR.out W hW; have u3 := HSL.out W hW; go_simp; first | exact ⟨StayS.refl _ _, rfl⟩ | rfl); simp only [Act.put, List.setIfInBounds_toArray, List.set_cons_succ, List.set_cons_zero])
      refine rel_endS ?_
      intro W hW hf
      try simp only [Act.put, List.setIfInBounds_toArray, List.set_cons_succ, List.set_cons_zero]
      refine wpList_nil ?_
      clear hf
      go_wp2_with fail
      go_ret
      exact ⟨ret_bool HN.out.symm, HB.out.trans (hW.mono HB.out.size)⟩
    by_cases g5 : kind = 5
    · subst g5
      have HQ : Hid (res = (decide (ls = 1) && decide (a = 2))) := Lib.hid (HF.out _ (HW5.out (by decide)))
      clear HK1 HK2 HW1 HW2 HW5 HWn HF HF0
      by_cases g : ls = 1
      rotate_left
      · have d : ((ls : Int) == 1) = false := by rw [beq_eq_false_iff_ne]; omega
        have HN := Lib.hid (HQ.out.trans (show _ = false by rw [decide_eq_false g]; rfl))
        go_wp2_with fail
        go_ret
        exact ⟨ret_bool HN.out.symm, HB.out⟩
      subst g
      have HCell := Lib.hid (HV2.out rfl)
      clear HV2
      obtain ⟨g, cap, hvv, hcap, hcell⟩ := HCell.out
      injection hvv with q1 q2 q3
      subst q1 q3
      have HN : Hid (res = decide (a = 2)) := Lib.hid HQ.out
      have u0 := hcell w1 (Below.refl _ _)
      clear hcell HCell HQ
      generalize hq : decide (a = 2) = q at *
      have fq : (a == 2) = q := hq
      clear hq
      go_wp2_with fail
      go_ret
      exact ⟨ret_bool HN.out.symm, HB.out⟩
    by_cases g6 : kind = 6
    · subst g6
      have HQ : Hid (res = (decide (ls = 1) && decide (a = 2))) := Lib.hid (HF.out _ (HW5.out (by decide)))
      clear HK1 HK2 HW1 HW2 HW5 HWn HF HF0
      by_cases g : ls = 1
      rotate_left
      · have d : ((ls : Int) == 1) = false := by rw [beq_eq_false_iff_ne]; omega
        have HN := Lib.hid (HQ.out.trans (show _ = false by rw [decide_eq_false g]; rfl))
        go_wp2_with fail
        go_ret
        exact ⟨ret_bool HN.out.symm, HB.out⟩
      subst g
      have HCell := Lib.hid (HV2.out rfl)
      clear HV2
      obtain ⟨g, cap, hvv, hcap, hcell⟩ := HCell.out
      injection hvv with q1 q2 q3
      subst q1 q3
      have HN : Hid (res = decide (a = 2)) := Lib.hid HQ.out
      have u0 := hcell w1 (Below.refl _ _)
      clear hcell HCell HQ
      generalize hq : decide (a = 2) = q at *
      have fq : (a == 2) = q := hq
      clear hq
      go_wp2_with fail
      go_ret
      exact ⟨ret_bool HN.out.symm, HB.out⟩
    have q1 : (kind == 1) = false := by simpa using g1
    have q2 : (kind == 2) = false := by simpa using g2
    have q5 : (kind == 5) = false := by simpa using g5
    have q6 : (kind == 6) = false := by simpa using g6
    have HN := Lib.hid (HF0.out (HWn.out g1 g2 g5 g6))
    have HN2 : Hid (res = ((ls : Int) == 0)) := Lib.hid (by rw [HN.out]; by_cases h : ls = 0 <;> simp [h])
    clear HK1 HK2 HW1 HW2 HW5 HWn HF HF0 HV2 g1 g2 g5 g6
    go_wp2_with fail
    go_ret
    exact ⟨ret_bool HN2.out.symm, HB.out⟩
set_option maxRecDepth 100000 in
set_option maxHeartbeats 1000000 in
theorem touches_any (n : Nd) (p3 : Slc) (h3 : n.code.length ≤ 4000000) (B : Nat) (w : World) (hc : InsAt w B p3 n.code) (hB : B ≤ w.heap.size) :
    Calls Try.prog 58 #[ndv n p3] w fun e w' => e = .returned (.int .i64 (ndTo n)) ∧ Below w.heap.size w w' := by
  have HR : Hid (ndTo n = n.code.countP isF + if n.kind = 2 then 1 else 0) := Lib.hid rfl
  have HC := Lib.hid hc
  unfold ndv
  clear hc
  generalize ndTo n = res at *
  obtain ⟨cd, kind, arg, next, alt⟩ := n
  obtain ⟨A3, cp3⟩ := p3
  dsimp only at *
  generalize hm3 : cd.length = nc at *
  have M3 := Lib.hid hm3
  clear hm3
  go_enter Try.func58, Try.ntmps58
  go_upto_region 1 with (fail)
  obtain ⟨b0_, hb_⟩ := boxes1 w (.cells #[.slice A3 nc cp3, .int .i64 kind, .int .i64 arg, .int .i64 next, .int .i64 alt] 60)
  generalize w.alloc (.cells #[.slice A3 nc cp3, .int .i64 kind, .int .i64 arg, .int .i64 next, .int .i64 alt] 60) = w0 at *
  have T2 : Hid (∀ W, Below w0.heap.size w0 W → W.cell? ⟨w.heap.size, 0, none⟩ = some (.slice A3 nc cp3) ∧ W.cell? ⟨w.heap.size, 1, none⟩ = some (.int .i64 kind) ∧ W.cell? ⟨w.heap.size, 2, none⟩ = some (.int .i64 arg) ∧ W.cell? ⟨w.heap.size, 3, none⟩ = some (.int .i64 next) ∧ W.cell? ⟨w.heap.size, 4, none⟩ = some (.int .i64 alt)) := Lib.hid (fun W hW => by have e := (hW.block _ (lt_blk b0_)).trans b0_; exact ⟨by rw [cell_blk e]; rfl, by rw [cell_blk e]; rfl, by rw [cell_blk e]; rfl, by rw [cell_blk e]; rfl, by rw [cell_blk e]; rfl⟩)
  have BA := Lib.hid hb_
  clear hb_ b0_
  obtain ⟨c0, -, -, -, -⟩ := T2.out w0 (Below.refl _ _)
  go_wp2_with fail
  clear c0
  go_loopw [3, 9] (fun cv iv wr => ∃ (k c : Nat), k ≤ nc ∧ c ≤ k ∧ iv = .int .i64 k ∧ cv = .int .i64 c ∧ (cd.take k).countP isF = c ∧ Below w0.heap.size w0 wr) (fun _ iv _ => nc - (intOf iv).toNat)
  case atStart => exact ⟨0, 0, by omega, by omega, rfl, rfl, by simp, Below.refl _ _⟩
  case round =>
    obtain ⟨k, c, hk, hck, rfl, rfl, hcnt, hb⟩ := hrel
    have Hb := Lib.hid hb; have Hcnt := Lib.hid hcnt
    clear hb hcnt
    by_cases hlt : k < nc
    · obtain ⟨b, o, rfl, hb1, x0, x1, x2, x3⟩ := InsAt.cells HC.out (show k < cd.length by rw [M3.out]; exact hlt)
      have HB := Lib.hid (BA.out.trans (Hb.out.mono BA.out.size))
      have x0 := (HB.out.cell (p := ⟨b, _, none⟩) (Nat.lt_of_lt_of_le hb1 hB)).trans x0
      have x1 := (HB.out.cell (p := ⟨b, _, none⟩) (Nat.lt_of_lt_of_le hb1 hB)).trans x1
      have x2 := (HB.out.cell (p := ⟨b, _, none⟩) (Nat.lt_of_lt_of_le hb1 hB)).trans x2
      have x3 := (HB.out.cell (p := ⟨b, _, none⟩) (Nat.lt_of_lt_of_le hb1 hB)).trans x3
      have HS : Hid ((cd.take (k + 1)).countP isF = c + if (cd.getD k default).op = 31 then 1 else 0) := Lib.hid (by
        rw [List.take_succ_eq_append_getElem (by rw [M3.out]; exact hlt), List.countP_append, Hcnt.out, List.getD_eq_getElem?_getD, List.getElem?_eq_getElem (by rw [M3.out]; exact hlt)]
        simp [List.countP_cons, isF])
      generalize cd.getD k default = i at *
      obtain ⟨op, ag, t, bt⟩ := i
      dsimp only at *
      by_cases g : op = 31
      · subst g
        have HS1 : Hid ((cd.take (k + 1)).countP isF = c + 1) := Lib.hid (by rw [HS.out, if_pos rfl])
        go_wp2_with fail
        go_roundw
        case rel => exact ⟨k + 1, c + 1, by omega, by omega, by go_num, by go_num, HS1.out, Hb.out.alloc Hb.out.size _⟩
        case measure => simp [intOf]; omega
      · have HS1 : Hid ((cd.take (k + 1)).countP isF = c) := Lib.hid (by rw [HS.out, if_neg g]; rfl)
        have q : (op == 31) = false := by simpa using g
        clear g
        go_wp2_with fail
        go_roundw
        case rel => exact ⟨k + 1, c, by omega, by omega, by go_num, rfl, HS1.out, Hb.out.alloc Hb.out.size _⟩
        case measure => simp [intOf]; omega
    · obtain rfl : nc = k := by omega
      have HS : Hid (cd.countP isF = c) := Lib.hid (by have := Hcnt.out; rwa [List.take_of_length_le (by rw [M3.out]; exact Nat.le_refl _)] at this)
      obtain ⟨-, c1, -, -, -⟩ := T2.out wr Hb.out
      by_cases g : kind = 2
      · subst g
        have HN : Hid (res = c + 1) := Lib.hid (by rw [HR.out, HS.out, if_pos rfl])
        go_wp2_with fail
        go_ret
        exact ⟨ret_int (by rw [HN.out]; rfl), BA.out.trans (Hb.out.mono BA.out.size)⟩
      · have HN : Hid (res = c) := Lib.hid (by rw [HR.out, HS.out, if_neg g]; rfl)
        have q : (kind == 2) = false := by simpa using g
        go_wp2_with fail
        go_ret
        exact ⟨ret_int (by rw [HN.out]), BA.out.trans (Hb.out.mono BA.out.size)⟩
end Go.Proofs.Ytbmpjphemjponaa
