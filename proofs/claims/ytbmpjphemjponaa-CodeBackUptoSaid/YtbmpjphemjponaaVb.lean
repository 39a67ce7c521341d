/- lists of values are compared. -/
import Derived.Test.YtbmpjphemjponaaVa
set_option linter.unusedSimpArgs false
set_option linter.unusedVariables false
namespace Go.Proofs.Ytbmpjphemjponaa
open Go.RowKit

set_option maxRecDepth 100000 in
set_option maxHeartbeats 4000000 in
theorem same_values (l m : List Vl) (n1 n2 : Nat) (hn1 : n1 = l.length) (hn2 : n2 = m.length) (hl : n1 ≤ 4000000) (hl2 : n2 ≤ 4000000) (p p' : Slc) (B : Nat) (w : World) (h1 : VlsAt w B p l) (h2 : VlsAt w B p' m) (hB : B ≤ w.heap.size) :
    Calls Try.prog 34 #[.slice p.1 n1 p.2, .slice p'.1 n2 p'.2] w fun e w' => e = .returned (.bool (eqL Vl.eq l m)) ∧ Below w.heap.size w w' := by
  obtain ⟨A, c⟩ := p
  obtain ⟨A', c'⟩ := p'
  have H1 := Lib.hid h1; have H2 := Lib.hid h2; have N1 := Lib.hid hn1; have N2 := Lib.hid hn2
  have HE := Lib.hid (eqL_iff (f := Vl.eq) (l := l) (m := m))
  clear h1 h2 hn1 hn2
  generalize hr : eqL Vl.eq l m = res at *
  clear hr
  by_cases hne : n1 = n2
  rotate_left
  · have Hf : Hid (res = false) := Lib.hid (by
      cases res with
      | false => rfl
      | true => exact absurd (by rw [N1.out, N2.out]; exact (HE.out.1 rfl).1) hne)
    have d1 : ((n1 : Int) == n2) = false := by rw [beq_eq_false_iff_ne]; omega
    have d2 : decide ((n1 : Int) = n2) = false := decide_eq_false (by omega)
    go_enter Try.func34, Try.ntmps34
    go_wp2_with fail
    go_ret
    exact ⟨by rw [Hf.out]; rfl, Below.refl _ _⟩
  have HT : Hid ((∀ i, i < n1 → Vl.eq (l.getD i default) (m.getD i default) = true) → res = true) := Lib.hid (fun h => HE.out.2 ⟨by rw [← N1.out, ← N2.out]; exact hne, by rw [← N1.out]; exact h⟩)
  have HF : Hid (∀ i, i < n1 → Vl.eq (l.getD i default) (m.getD i default) = false → res = false) := Lib.hid (fun i hi h => by
    cases res with
    | false => rfl
    | true => have := (HE.out.1 rfl).2 i (by rw [← N1.out]; exact hi); rw [h] at this; cases this)
  have N2 := Lib.hid (hne.trans N2.out)
  subst hne
  clear HE
  go_enter Try.func34, Try.ntmps34
  go_wp2_with fail
  go_loopw [5] (fun iv wr => ∃ k : Nat, k ≤ n1 ∧ iv = .int .i64 k ∧ (∀ i, i < k → Vl.eq (l.getD i default) (m.getD i default) = true) ∧ Below w.heap.size w wr) (fun iv _ => n1 - (intOf iv).toNat)
  case atStart => exact ⟨0, by omega, rfl, fun i hi => by omega, Below.refl _ _⟩
  case round =>
    obtain ⟨k, hk, rfl, hall, hb⟩ := hrel
    have Hall := Lib.hid hall; have Hb := Lib.hid hb
    clear hall hb
    by_cases hlt : k < n1
    · obtain ⟨b, o, rfl, hb1, x0, x1⟩ := VlsAt.cells H1.out (show k < l.length by rw [← N1.out]; exact hlt)
      obtain ⟨b', o', rfl, hb2, y0, y1⟩ := VlsAt.cells H2.out (show k < m.length by rw [← N2.out]; exact hlt)
      have T : Hid (∀ W, Below wr.heap.size wr W → W.cell? ⟨b, o + k * 2, none⟩ = some (.int .u8 (l.getD k default).t) ∧ W.cell? ⟨b, o + k * 2 + 1, none⟩ = some (.int .u64 (l.getD k default).b) ∧ W.cell? ⟨b', o' + k * 2, none⟩ = some (.int .u8 (m.getD k default).t) ∧ W.cell? ⟨b', o' + k * 2 + 1, none⟩ = some (.int .u64 (m.getD k default).b)) := Lib.hid (fun W hW => by
        have hW := Hb.out.trans (hW.mono Hb.out.size)
        exact ⟨(hW.cell (p := ⟨b, _, none⟩) (Nat.lt_of_lt_of_le hb1 hB)).trans x0, (hW.cell (p := ⟨b, _, none⟩) (Nat.lt_of_lt_of_le hb1 hB)).trans x1, (hW.cell (p := ⟨b', _, none⟩) (Nat.lt_of_lt_of_le hb2 hB)).trans y0, (hW.cell (p := ⟨b', _, none⟩) (Nat.lt_of_lt_of_le hb2 hB)).trans y1⟩)
      have HX : Hid (Vl.eq (l.getD k default) (m.getD k default) = (decide ((l.getD k default).t = (m.getD k default).t) && decide ((l.getD k default).b = (m.getD k default).b))) := Lib.hid (by simp [Vl.eq, Ins.eq, Bool.and_assoc])
      have HF1 := Lib.hid (HF.out k hlt)
      have HA1 : Hid (Vl.eq (l.getD k default) (m.getD k default) = true → ∀ i, i < k + 1 → Vl.eq (l.getD i default) (m.getD i default) = true) := Lib.hid (fun h i hi => by
        by_cases e : i = k
        · rw [e]; exact h
        · exact Hall.out i (by omega))
      clear x0 x1 y0 y1
      generalize Vl.eq (l.getD k default) (m.getD k default) = q at *
      generalize l.getD k default = a at *
      generalize m.getD k default = z at *
      generalize hd0 : decide (a.t = z.t) = e0 at *
      have f0 : (a.t == z.t) = e0 := hd0
      generalize hd1 : decide (a.b = z.b) = e1 at *
      have f1 : (a.b == z.b) = e1 := hd1
      clear hd0 hd1
      cases e0
      · skip
        have HN := Lib.hid (HF1.out (by rw [HX.out]; simp))
        go_upto_region 6 with (fail)
        apply wp_region_relH (H := []) 9 [(Sum.inl _ : TT), (Sum.inl _ : TT), (Sum.inl _ : TT), (Sum.inl _ : TT), (Sum.inl _ : TT), (Sum.inl _ : TT), (Sum.inl _ : TT), (Sum.inl _ : TT), (Sum.inl _ : TT)] (by kernel_rfl) (by kernel_rfl) (fun _ _ _ _ _ h => h) rfl
        simp only [List.take_succ_cons, List.take_zero, List.drop_succ_cons, List.drop_zero]
        iterate 9 (apply rel_isS; (intro W hW hf; obtain ⟨u0, u1, u2, u3⟩ := T.out W hW; go_simp; first | exact ⟨StayS.refl _ _, rfl⟩ | rfl); simp only [Act.put, List.setIfInBounds_toArray, List.set_cons_succ, List.set_cons_zero])
        refine rel_endS ?_
        intro W hW hf
        try simp only [Act.put, List.setIfInBounds_toArray, List.set_cons_succ, List.set_cons_zero]
        refine wpList_nil ?_
        have HW := Lib.hid (Hb.out.trans (hW.mono Hb.out.size))
        clear hW hf
        go_wp2_with fail
        go_ret
        exact ⟨by rw [HN.out]; rfl, HW.out⟩
      · skip
        cases e1
        · skip
          have HN := Lib.hid (HF1.out (by rw [HX.out]; simp))
          go_upto_region 6 with (fail)
          apply wp_region_relH (H := []) 9 [(Sum.inl _ : TT), (Sum.inl _ : TT), (Sum.inl _ : TT), (Sum.inl _ : TT), (Sum.inl _ : TT), (Sum.inl _ : TT), (Sum.inl _ : TT), (Sum.inl _ : TT), (Sum.inl _ : TT)] (by kernel_rfl) (by kernel_rfl) (fun _ _ _ _ _ h => h) rfl
          simp only [List.take_succ_cons, List.take_zero, List.drop_succ_cons, List.drop_zero]
          iterate 9 (apply rel_isS; (intro W hW hf; obtain ⟨u0, u1, u2, u3⟩ := T.out W hW; go_simp; first | exact ⟨StayS.refl _ _, rfl⟩ | rfl); simp only [Act.put, List.setIfInBounds_toArray, List.set_cons_succ, List.set_cons_zero])
          refine rel_endS ?_
          intro W hW hf
          try simp only [Act.put, List.setIfInBounds_toArray, List.set_cons_succ, List.set_cons_zero]
          refine wpList_nil ?_
          have HW := Lib.hid (Hb.out.trans (hW.mono Hb.out.size))
          clear hW hf
          go_wp2_with fail
          go_ret
          exact ⟨by rw [HN.out]; rfl, HW.out⟩
        · skip
          have HN := Lib.hid (HA1.out (by rw [HX.out]; rfl))
          go_upto_region 6 with (fail)
          apply wp_region_relH (H := []) 9 [(Sum.inl _ : TT), (Sum.inl _ : TT), (Sum.inl _ : TT), (Sum.inl _ : TT), (Sum.inl _ : TT), (Sum.inl _ : TT), (Sum.inl _ : TT), (Sum.inl _ : TT), (Sum.inl _ : TT)] (by kernel_rfl) (by kernel_rfl) (fun _ _ _ _ _ h => h) rfl
          simp only [List.take_succ_cons, List.take_zero, List.drop_succ_cons, List.drop_zero]
          iterate 9 (apply rel_isS; (intro W hW hf; obtain ⟨u0, u1, u2, u3⟩ := T.out W hW; go_simp; first | exact ⟨StayS.refl _ _, rfl⟩ | rfl); simp only [Act.put, List.setIfInBounds_toArray, List.set_cons_succ, List.set_cons_zero])
          refine rel_endS ?_
          intro W hW hf
          try simp only [Act.put, List.setIfInBounds_toArray, List.set_cons_succ, List.set_cons_zero]
          refine wpList_nil ?_
          have HW := Lib.hid (Hb.out.trans (hW.mono Hb.out.size))
          clear hW hf
          go_wp2_with fail
          go_roundw
          case rel => exact ⟨k + 1, by omega, by go_num, HN.out, HW.out⟩
          case measure => simp [intOf]; omega
    · obtain rfl : k = n1 := by omega
      have HN := Lib.hid (HT.out Hall.out)
      go_wp2_with fail
      go_ret
      exact ⟨by rw [HN.out]; rfl, Hb.out⟩
set_option maxRecDepth 100000 in
set_option maxHeartbeats 4000000 in
theorem equal_values (l m : List Vl) (n1 n2 : Nat) (hn1 : n1 = l.length) (hn2 : n2 = m.length) (hl : n1 ≤ 4000000) (hl2 : n2 ≤ 4000000) (p p' : Slc) (B : Nat) (w : World) (h1 : VlsAt w B p l) (h2 : VlsAt w B p' m) (hB : B ≤ w.heap.size) :
    Calls Try.prog 31 #[.slice p.1 n1 p.2, .slice p'.1 n2 p'.2] w fun e w' => e = .returned (.bool (eqL Vl.eq l m)) ∧ Below w.heap.size w w' := by
  obtain ⟨A, c⟩ := p
  obtain ⟨A', c'⟩ := p'
  have H1 := Lib.hid h1; have H2 := Lib.hid h2; have N1 := Lib.hid hn1; have N2 := Lib.hid hn2
  have HE := Lib.hid (eqL_iff (f := Vl.eq) (l := l) (m := m))
  clear h1 h2 hn1 hn2
  generalize hr : eqL Vl.eq l m = res at *
  clear hr
  by_cases hne : n1 = n2
  rotate_left
  · have Hf : Hid (res = false) := Lib.hid (by
      cases res with
      | false => rfl
      | true => exact absurd (by rw [N1.out, N2.out]; exact (HE.out.1 rfl).1) hne)
    have d1 : ((n1 : Int) == n2) = false := by rw [beq_eq_false_iff_ne]; omega
    have d2 : decide ((n1 : Int) = n2) = false := decide_eq_false (by omega)
    go_enter Try.func31, Try.ntmps31
    go_wp2_with fail
    go_ret
    exact ⟨by rw [Hf.out]; rfl, Below.refl _ _⟩
  have HT : Hid ((∀ i, i < n1 → Vl.eq (l.getD i default) (m.getD i default) = true) → res = true) := Lib.hid (fun h => HE.out.2 ⟨by rw [← N1.out, ← N2.out]; exact hne, by rw [← N1.out]; exact h⟩)
  have HF : Hid (∀ i, i < n1 → Vl.eq (l.getD i default) (m.getD i default) = false → res = false) := Lib.hid (fun i hi h => by
    cases res with
    | false => rfl
    | true => have := (HE.out.1 rfl).2 i (by rw [← N1.out]; exact hi); rw [h] at this; cases this)
  have N2 := Lib.hid (hne.trans N2.out)
  subst hne
  clear HE
  go_enter Try.func31, Try.ntmps31
  go_wp2_with fail
  go_loopw [13] (fun iv wr => ∃ k : Nat, k ≤ n1 ∧ iv = .int .i64 k ∧ (∀ i, i < k → Vl.eq (l.getD i default) (m.getD i default) = true) ∧ Below w.heap.size w wr) (fun iv _ => n1 - (intOf iv).toNat)
  case atStart => exact ⟨0, by omega, rfl, fun i hi => by omega, Below.refl _ _⟩
  case round =>
    obtain ⟨k, hk, rfl, hall, hb⟩ := hrel
    have Hall := Lib.hid hall; have Hb := Lib.hid hb
    clear hall hb
    by_cases hlt : k < n1
    · obtain ⟨b, o, rfl, hb1, x0, x1⟩ := VlsAt.cells H1.out (show k < l.length by rw [← N1.out]; exact hlt)
      obtain ⟨b', o', rfl, hb2, y0, y1⟩ := VlsAt.cells H2.out (show k < m.length by rw [← N2.out]; exact hlt)
      have T : Hid (∀ W, Below wr.heap.size wr W → W.cell? ⟨b, o + k * 2, none⟩ = some (.int .u8 (l.getD k default).t) ∧ W.cell? ⟨b, o + k * 2 + 1, none⟩ = some (.int .u64 (l.getD k default).b) ∧ W.cell? ⟨b', o' + k * 2, none⟩ = some (.int .u8 (m.getD k default).t) ∧ W.cell? ⟨b', o' + k * 2 + 1, none⟩ = some (.int .u64 (m.getD k default).b)) := Lib.hid (fun W hW => by
        have hW := Hb.out.trans (hW.mono Hb.out.size)
        exact ⟨(hW.cell (p := ⟨b, _, none⟩) (Nat.lt_of_lt_of_le hb1 hB)).trans x0, (hW.cell (p := ⟨b, _, none⟩) (Nat.lt_of_lt_of_le hb1 hB)).trans x1, (hW.cell (p := ⟨b', _, none⟩) (Nat.lt_of_lt_of_le hb2 hB)).trans y0, (hW.cell (p := ⟨b', _, none⟩) (Nat.lt_of_lt_of_le hb2 hB)).trans y1⟩)
      have HX : Hid (Vl.eq (l.getD k default) (m.getD k default) = (decide ((l.getD k default).t = (m.getD k default).t) && decide ((l.getD k default).b = (m.getD k default).b))) := Lib.hid (by simp [Vl.eq, Ins.eq, Bool.and_assoc])
      have HF1 := Lib.hid (HF.out k hlt)
      have HA1 : Hid (Vl.eq (l.getD k default) (m.getD k default) = true → ∀ i, i < k + 1 → Vl.eq (l.getD i default) (m.getD i default) = true) := Lib.hid (fun h i hi => by
        by_cases e : i = k
        · rw [e]; exact h
        · exact Hall.out i (by omega))
      clear x0 x1 y0 y1
      generalize Vl.eq (l.getD k default) (m.getD k default) = q at *
      generalize l.getD k default = a at *
      generalize m.getD k default = z at *
      generalize hd0 : decide (a.t = z.t) = e0 at *
      have f0 : (a.t == z.t) = e0 := hd0
      generalize hd1 : decide (a.b = z.b) = e1 at *
      have f1 : (a.b == z.b) = e1 := hd1
      clear hd0 hd1
      cases e0
      · skip
        have HN := Lib.hid (HF1.out (by rw [HX.out]; simp))
        go_upto_region 6 with (fail)
        apply wp_region_relH (H := []) 9 [(Sum.inl _ : TT), (Sum.inl _ : TT), (Sum.inl _ : TT), (Sum.inl _ : TT), (Sum.inl _ : TT), (Sum.inl _ : TT), (Sum.inl _ : TT), (Sum.inl _ : TT), (Sum.inl _ : TT)] (by kernel_rfl) (by kernel_rfl) (fun _ _ _ _ _ h => h) rfl
        simp only [List.take_succ_cons, List.take_zero, List.drop_succ_cons, List.drop_zero]
        iterate 9 (apply rel_isS; (intro W hW hf; obtain ⟨u0, u1, u2, u3⟩ := T.out W hW; go_simp; first | exact ⟨StayS.refl _ _, rfl⟩ | rfl); simp only [Act.put, List.setIfInBounds_toArray, List.set_cons_succ, List.set_cons_zero])
        refine rel_endS ?_
        intro W hW hf
        try simp only [Act.put, List.setIfInBounds_toArray, List.set_cons_succ, List.set_cons_zero]
        refine wpList_nil ?_
        have HW := Lib.hid (Hb.out.trans (hW.mono Hb.out.size))
        clear hW hf
        go_wp2_with fail
        go_ret
        exact ⟨by rw [HN.out]; rfl, HW.out⟩
      · skip
        cases e1
        · skip
          have HN := Lib.hid (HF1.out (by rw [HX.out]; simp))
          go_upto_region 6 with (fail)
          apply wp_region_relH (H := []) 9 [(Sum.inl _ : TT), (Sum.inl _ : TT), (Sum.inl _ : TT), (Sum.inl _ : TT), (Sum.inl _ : TT), (Sum.inl _ : TT), (Sum.inl _ : TT), (Sum.inl _ : TT), (Sum.inl _ : TT)] (by kernel_rfl) (by kernel_rfl) (fun _ _ _ _ _ h => h) rfl
          simp only [List.take_succ_cons, List.take_zero, List.drop_succ_cons, List.drop_zero]
          iterate 9 (apply rel_isS; (intro W hW hf; obtain ⟨u0, u1, u2, u3⟩ := T.out W hW; go_simp; first | exact ⟨StayS.refl _ _, rfl⟩ | rfl); simp only [Act.put, List.setIfInBounds_toArray, List.set_cons_succ, List.set_cons_zero])
          refine rel_endS ?_
          intro W hW hf
          try simp only [Act.put, List.setIfInBounds_toArray, List.set_cons_succ, List.set_cons_zero]
          refine wpList_nil ?_
          have HW := Lib.hid (Hb.out.trans (hW.mono Hb.out.size))
          clear hW hf
          go_wp2_with fail
          go_ret
          exact ⟨by rw [HN.out]; rfl, HW.out⟩
        · skip
          have HN := Lib.hid (HA1.out (by rw [HX.out]; rfl))
          go_upto_region 6 with (fail)
          apply wp_region_relH (H := []) 9 [(Sum.inl _ : TT), (Sum.inl _ : TT), (Sum.inl _ : TT), (Sum.inl _ : TT), (Sum.inl _ : TT), (Sum.inl _ : TT), (Sum.inl _ : TT), (Sum.inl _ : TT), (Sum.inl _ : TT)] (by kernel_rfl) (by kernel_rfl) (fun _ _ _ _ _ h => h) rfl
          simp only [List.take_succ_cons, List.take_zero, List.drop_succ_cons, List.drop_zero]
          iterate 9 (apply rel_isS; (intro W hW hf; obtain ⟨u0, u1, u2, u3⟩ := T.out W hW; go_simp; first | exact ⟨StayS.refl _ _, rfl⟩ | rfl); simp only [Act.put, List.setIfInBounds_toArray, List.set_cons_succ, List.set_cons_zero])
          refine rel_endS ?_
          intro W hW hf
          try simp only [Act.put, List.setIfInBounds_toArray, List.set_cons_succ, List.set_cons_zero]
          refine wpList_nil ?_
          have HW := Lib.hid (Hb.out.trans (hW.mono Hb.out.size))
          clear hW hf
          go_wp2_with fail
          go_roundw
          case rel => exact ⟨k + 1, by omega, by go_num, HN.out, HW.out⟩
          case measure => simp [intOf]; omega
    · obtain rfl : k = n1 := by omega
      have HN := Lib.hid (HT.out Hall.out)
      go_wp2_with fail
      go_ret
      exact ⟨by rw [HN.out]; rfl, Hb.out⟩
set_option maxRecDepth 100000 in
set_option maxHeartbeats 4000000 in
theorem equal_instrs (l m : List Ins) (n1 n2 : Nat) (hn1 : n1 = l.length) (hn2 : n2 = m.length) (hl : n1 ≤ 4000000) (hl2 : n2 ≤ 4000000) (p p' : Slc) (B : Nat) (w : World) (h1 : InsAt w B p l) (h2 : InsAt w B p' m) (hB : B ≤ w.heap.size) :
    Calls Try.prog 84 #[.slice p.1 n1 p.2, .slice p'.1 n2 p'.2] w fun e w' => e = .returned (.bool (eqL Ins.eq l m)) ∧ Below w.heap.size w w' := by
  obtain ⟨A, c⟩ := p
  obtain ⟨A', c'⟩ := p'
  have H1 := Lib.hid h1; have H2 := Lib.hid h2; have N1 := Lib.hid hn1; have N2 := Lib.hid hn2
  have HE := Lib.hid (eqL_iff (f := Ins.eq) (l := l) (m := m))
  clear h1 h2 hn1 hn2
  generalize hr : eqL Ins.eq l m = res at *
  clear hr
  by_cases hne : n1 = n2
  rotate_left
  · have Hf : Hid (res = false) := Lib.hid (by
      cases res with
      | false => rfl
      | true => exact absurd (by rw [N1.out, N2.out]; exact (HE.out.1 rfl).1) hne)
    have d1 : ((n1 : Int) == n2) = false := by rw [beq_eq_false_iff_ne]; omega
    have d2 : decide ((n1 : Int) = n2) = false := decide_eq_false (by omega)
    go_enter Try.func84, Try.ntmps84
    go_wp2_with fail
    go_ret
    exact ⟨by rw [Hf.out]; rfl, Below.refl _ _⟩
  have HT : Hid ((∀ i, i < n1 → Ins.eq (l.getD i default) (m.getD i default) = true) → res = true) := Lib.hid (fun h => HE.out.2 ⟨by rw [← N1.out, ← N2.out]; exact hne, by rw [← N1.out]; exact h⟩)
  have HF : Hid (∀ i, i < n1 → Ins.eq (l.getD i default) (m.getD i default) = false → res = false) := Lib.hid (fun i hi h => by
    cases res with
    | false => rfl
    | true => have := (HE.out.1 rfl).2 i (by rw [← N1.out]; exact hi); rw [h] at this; cases this)
  have N2 := Lib.hid (hne.trans N2.out)
  subst hne
  clear HE
  go_enter Try.func84, Try.ntmps84
  go_wp2_with fail
  go_loopw [13] (fun iv wr => ∃ k : Nat, k ≤ n1 ∧ iv = .int .i64 k ∧ (∀ i, i < k → Ins.eq (l.getD i default) (m.getD i default) = true) ∧ Below w.heap.size w wr) (fun iv _ => n1 - (intOf iv).toNat)
  case atStart => exact ⟨0, by omega, rfl, fun i hi => by omega, Below.refl _ _⟩
  case round =>
    obtain ⟨k, hk, rfl, hall, hb⟩ := hrel
    have Hall := Lib.hid hall; have Hb := Lib.hid hb
    clear hall hb
    by_cases hlt : k < n1
    · obtain ⟨b, o, rfl, hb1, x0, x1, x2, x3⟩ := InsAt.cells H1.out (show k < l.length by rw [← N1.out]; exact hlt)
      obtain ⟨b', o', rfl, hb2, y0, y1, y2, y3⟩ := InsAt.cells H2.out (show k < m.length by rw [← N2.out]; exact hlt)
      have T : Hid (∀ W, Below wr.heap.size wr W → W.cell? ⟨b, o + k * 4, none⟩ = some (.int .u8 (l.getD k default).op) ∧ W.cell? ⟨b, o + k * 4 + 1, none⟩ = some (.int .i64 (l.getD k default).arg) ∧ W.cell? ⟨b, o + k * 4 + 2, none⟩ = some (.int .u8 (l.getD k default).l.t) ∧ W.cell? ⟨b, o + k * 4 + 3, none⟩ = some (.int .u64 (l.getD k default).l.b) ∧ W.cell? ⟨b', o' + k * 4, none⟩ = some (.int .u8 (m.getD k default).op) ∧ W.cell? ⟨b', o' + k * 4 + 1, none⟩ = some (.int .i64 (m.getD k default).arg) ∧ W.cell? ⟨b', o' + k * 4 + 2, none⟩ = some (.int .u8 (m.getD k default).l.t) ∧ W.cell? ⟨b', o' + k * 4 + 3, none⟩ = some (.int .u64 (m.getD k default).l.b)) := Lib.hid (fun W hW => by
        have hW := Hb.out.trans (hW.mono Hb.out.size)
        exact ⟨(hW.cell (p := ⟨b, _, none⟩) (Nat.lt_of_lt_of_le hb1 hB)).trans x0, (hW.cell (p := ⟨b, _, none⟩) (Nat.lt_of_lt_of_le hb1 hB)).trans x1, (hW.cell (p := ⟨b, _, none⟩) (Nat.lt_of_lt_of_le hb1 hB)).trans x2, (hW.cell (p := ⟨b, _, none⟩) (Nat.lt_of_lt_of_le hb1 hB)).trans x3, (hW.cell (p := ⟨b', _, none⟩) (Nat.lt_of_lt_of_le hb2 hB)).trans y0, (hW.cell (p := ⟨b', _, none⟩) (Nat.lt_of_lt_of_le hb2 hB)).trans y1, (hW.cell (p := ⟨b', _, none⟩) (Nat.lt_of_lt_of_le hb2 hB)).trans y2, (hW.cell (p := ⟨b', _, none⟩) (Nat.lt_of_lt_of_le hb2 hB)).trans y3⟩)
      have HX : Hid (Ins.eq (l.getD k default) (m.getD k default) = (decide ((l.getD k default).op = (m.getD k default).op) && decide ((l.getD k default).arg = (m.getD k default).arg) && decide ((l.getD k default).l.t = (m.getD k default).l.t) && decide ((l.getD k default).l.b = (m.getD k default).l.b))) := Lib.hid (by simp [Vl.eq, Ins.eq, Bool.and_assoc])
      have HF1 := Lib.hid (HF.out k hlt)
      have HA1 : Hid (Ins.eq (l.getD k default) (m.getD k default) = true → ∀ i, i < k + 1 → Ins.eq (l.getD i default) (m.getD i default) = true) := Lib.hid (fun h i hi => by
        by_cases e : i = k
        · rw [e]; exact h
        · exact Hall.out i (by omega))
      clear x0 x1 x2 x3 y0 y1 y2 y3
      generalize Ins.eq (l.getD k default) (m.getD k default) = q at *
      generalize l.getD k default = a at *
      generalize m.getD k default = z at *
      generalize hd0 : decide (a.op = z.op) = e0 at *
      have f0 : (a.op == z.op) = e0 := hd0
      generalize hd1 : decide (a.arg = z.arg) = e1 at *
      have f1 : (a.arg == z.arg) = e1 := hd1
      generalize hd2 : decide (a.l.t = z.l.t) = e2 at *
      have f2 : (a.l.t == z.l.t) = e2 := hd2
      generalize hd3 : decide (a.l.b = z.l.b) = e3 at *
      have f3 : (a.l.b == z.l.b) = e3 := hd3
      clear hd0 hd1 hd2 hd3
      cases e0
      · skip
        have HN := Lib.hid (HF1.out (by rw [HX.out]; simp))
        go_upto_region 6 with (fail)
        apply wp_region_relH (H := []) 9 [(Sum.inl _ : TT), (Sum.inl _ : TT), (Sum.inl _ : TT), (Sum.inl _ : TT), (Sum.inl _ : TT), (Sum.inl _ : TT), (Sum.inl _ : TT), (Sum.inl _ : TT), (Sum.inl _ : TT)] (by kernel_rfl) (by kernel_rfl) (fun _ _ _ _ _ h => h) rfl
        simp only [List.take_succ_cons, List.take_zero, List.drop_succ_cons, List.drop_zero]
        iterate 9 (apply rel_isS; (intro W hW hf; obtain ⟨u0, u1, u2, u3, u4, u5, u6, u7⟩ := T.out W hW; go_simp; first | exact ⟨StayS.refl _ _, rfl⟩ | rfl); simp only [Act.put, List.setIfInBounds_toArray, List.set_cons_succ, List.set_cons_zero])
        refine rel_endS ?_
        intro W hW hf
        try simp only [Act.put, List.setIfInBounds_toArray, List.set_cons_succ, List.set_cons_zero]
        refine wpList_nil ?_
        have HW := Lib.hid (Hb.out.trans (hW.mono Hb.out.size))
        clear hW hf
        go_wp2_with fail
        go_ret
        exact ⟨by rw [HN.out]; rfl, HW.out⟩
      · skip
        cases e1
        · skip
          have HN := Lib.hid (HF1.out (by rw [HX.out]; simp))
          go_upto_region 6 with (fail)
          apply wp_region_relH (H := []) 9 [(Sum.inl _ : TT), (Sum.inl _ : TT), (Sum.inl _ : TT), (Sum.inl _ : TT), (Sum.inl _ : TT), (Sum.inl _ : TT), (Sum.inl _ : TT), (Sum.inl _ : TT), (Sum.inl _ : TT)] (by kernel_rfl) (by kernel_rfl) (fun _ _ _ _ _ h => h) rfl
          simp only [List.take_succ_cons, List.take_zero, List.drop_succ_cons, List.drop_zero]
          iterate 9 (apply rel_isS; (intro W hW hf; obtain ⟨u0, u1, u2, u3, u4, u5, u6, u7⟩ := T.out W hW; go_simp; first | exact ⟨StayS.refl _ _, rfl⟩ | rfl); simp only [Act.put, List.setIfInBounds_toArray, List.set_cons_succ, List.set_cons_zero])
          refine rel_endS ?_
          intro W hW hf
          try simp only [Act.put, List.setIfInBounds_toArray, List.set_cons_succ, List.set_cons_zero]
          refine wpList_nil ?_
          have HW := Lib.hid (Hb.out.trans (hW.mono Hb.out.size))
          clear hW hf
          go_wp2_with fail
          go_ret
          exact ⟨by rw [HN.out]; rfl, HW.out⟩
        · skip
          cases e2
          · skip
            have HN := Lib.hid (HF1.out (by rw [HX.out]; simp))
            go_upto_region 6 with (fail)
            apply wp_region_relH (H := []) 9 [(Sum.inl _ : TT), (Sum.inl _ : TT), (Sum.inl _ : TT), (Sum.inl _ : TT), (Sum.inl _ : TT), (Sum.inl _ : TT), (Sum.inl _ : TT), (Sum.inl _ : TT), (Sum.inl _ : TT)] (by kernel_rfl) (by kernel_rfl) (fun _ _ _ _ _ h => h) rfl
            simp only [List.take_succ_cons, List.take_zero, List.drop_succ_cons, List.drop_zero]
            iterate 9 (apply rel_isS; (intro W hW hf; obtain ⟨u0, u1, u2, u3, u4, u5, u6, u7⟩ := T.out W hW; go_simp; first | exact ⟨StayS.refl _ _, rfl⟩ | rfl); simp only [Act.put, List.setIfInBounds_toArray, List.set_cons_succ, List.set_cons_zero])
            refine rel_endS ?_
            intro W hW hf
            try simp only [Act.put, List.setIfInBounds_toArray, List.set_cons_succ, List.set_cons_zero]
            refine wpList_nil ?_
            have HW := Lib.hid (Hb.out.trans (hW.mono Hb.out.size))
            clear hW hf
            go_wp2_with fail
            go_ret
            exact ⟨by rw [HN.out]; rfl, HW.out⟩
          · skip
            cases e3
            · skip
              have HN := Lib.hid (HF1.out (by rw [HX.out]; simp))
              go_upto_region 6 with (fail)
              apply wp_region_relH (H := []) 9 [(Sum.inl _ : TT), (Sum.inl _ : TT), (Sum.inl _ : TT), (Sum.inl _ : TT), (Sum.inl _ : TT), (Sum.inl _ : TT), (Sum.inl _ : TT), (Sum.inl _ : TT), (Sum.inl _ : TT)] (by kernel_rfl) (by kernel_rfl) (fun _ _ _ _ _ h => h) rfl
              simp only [List.take_succ_cons, List.take_zero, List.drop_succ_cons, List.drop_zero]
              iterate 9 (apply rel_isS; (intro W hW hf; obtain ⟨u0, u1, u2, u3, u4, u5, u6, u7⟩ := T.out W hW; go_simp; first | exact ⟨StayS.refl _ _, rfl⟩ | rfl); simp only [Act.put, List.setIfInBounds_toArray, List.set_cons_succ, List.set_cons_zero])
              refine rel_endS ?_
              intro W hW hf
              try simp only [Act.put, List.setIfInBounds_toArray, List.set_cons_succ, List.set_cons_zero]
              refine wpList_nil ?_
              have HW := Lib.hid (Hb.out.trans (hW.mono Hb.out.size))
              clear hW hf
              go_wp2_with fail
              go_ret
              exact ⟨by rw [HN.out]; rfl, HW.out⟩
            · skip
              have HN := Lib.hid (HA1.out (by rw [HX.out]; rfl))
              go_upto_region 6 with (fail)
              apply wp_region_relH (H := []) 9 [(Sum.inl _ : TT), (Sum.inl _ : TT), (Sum.inl _ : TT), (Sum.inl _ : TT), (Sum.inl _ : TT), (Sum.inl _ : TT), (Sum.inl _ : TT), (Sum.inl _ : TT), (Sum.inl _ : TT)] (by kernel_rfl) (by kernel_rfl) (fun _ _ _ _ _ h => h) rfl
              simp only [List.take_succ_cons, List.take_zero, List.drop_succ_cons, List.drop_zero]
              iterate 9 (apply rel_isS; (intro W hW hf; obtain ⟨u0, u1, u2, u3, u4, u5, u6, u7⟩ := T.out W hW; go_simp; first | exact ⟨StayS.refl _ _, rfl⟩ | rfl); simp only [Act.put, List.setIfInBounds_toArray, List.set_cons_succ, List.set_cons_zero])
              refine rel_endS ?_
              intro W hW hf
              try simp only [Act.put, List.setIfInBounds_toArray, List.set_cons_succ, List.set_cons_zero]
              refine wpList_nil ?_
              have HW := Lib.hid (Hb.out.trans (hW.mono Hb.out.size))
              clear hW hf
              go_wp2_with fail
              go_roundw
              case rel => exact ⟨k + 1, by omega, by go_num, HN.out, HW.out⟩
              case measure => simp [intOf]; omega
    · obtain rfl : k = n1 := by omega
      have HN := Lib.hid (HT.out Hall.out)
      go_wp2_with fail
      go_ret
      exact ⟨by rw [HN.out]; rfl, Hb.out⟩
end Go.Proofs.Ytbmpjphemjponaa
