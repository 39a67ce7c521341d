/- assizekit.SameNode (printed by gen_kit.py). -/
import Derived.Test.YtbmpjphemjponaaVd
set_option linter.unusedSimpArgs false
set_option linter.unusedVariables false
namespace Go.Proofs.Ytbmpjphemjponaa
open Go.RowKit

set_option maxRecDepth 100000 in
set_option maxHeartbeats 4000000 in
theorem kit_node (n m : Nd) (hl : n.code.length ≤ 4000000) (hl2 : m.code.length ≤ 4000000) (p q : Slc) (B : Nat) (w : World) (h1 : InsAt w B p n.code) (h2 : InsAt w B q m.code) (hB : B ≤ w.heap.size) :
    Calls Try.prog 35 #[ndv n p, ndv m q] w fun e w' => e = .returned (.bool (Nd.eq n m)) ∧ Below w.heap.size w w' := by
  have HE := Lib.hid (eqL_iff (f := Ins.eq) (l := n.code) (m := m.code))
  have HN0 : Hid (Nd.eq n m = (eqL Ins.eq n.code m.code && (decide (n.kind = m.kind) && (decide (n.arg = m.arg) && (decide (n.next = m.next) && decide (n.alt = m.alt)))))) := Lib.hid rfl
  have H1 := Lib.hid h1; have H2 := Lib.hid h2
  clear h1 h2
  unfold ndv
  generalize Nd.eq n m = res at *
  obtain ⟨l, k1, a1, x1, y1⟩ := n
  obtain ⟨m, k2, a2, x2, y2⟩ := m
  obtain ⟨A, c⟩ := p
  obtain ⟨A', c'⟩ := q
  dsimp only at *
  generalize hr : eqL Ins.eq l m = r at *
  clear hr
  generalize hn1 : l.length = n1 at *
  generalize hn2 : m.length = n2 at *
  have N1 := Lib.hid hn1.symm; have N2 := Lib.hid hn2.symm
  clear hn1 hn2
  go_enter Try.func35, Try.ntmps35
  go_upto_region 1 with (fail)
  obtain ⟨hc, hb⟩ := two_boxes _ (Below.refl ((w.alloc (.cells #[.slice A n1 c, .int .i64 k1, .int .i64 a1, .int .i64 x1, .int .i64 y1] 60)).alloc (.cells #[.slice A' n2 c', .int .i64 k2, .int .i64 a2, .int .i64 x2, .int .i64 y2] 60)).heap.size _)
  generalize (w.alloc (.cells #[.slice A n1 c, .int .i64 k1, .int .i64 a1, .int .i64 x1, .int .i64 y1] 60)).alloc (.cells #[.slice A' n2 c', .int .i64 k2, .int .i64 a2, .int .i64 x2, .int .i64 y2] 60) = w1 at *
  have HB := Lib.hid hb
  have HC := Lib.hid hc
  have z := fun j => (hc w1 (Below.refl _ _) j)
  have u0 := (z 0).1; have u1 := (z 1).1; have u2 := (z 2).1; have u3 := (z 3).1; have u4 := (z 4).1
  have v0 := (z 0).2; have v1 := (z 1).2; have v2 := (z 2).2; have v3 := (z 3).2; have v4 := (z 4).2
  simp only [List.getElem?_toArray, List.getElem?_cons_succ, List.getElem?_cons_zero] at u0 u1 u2 u3 u4 v0 v1 v2 v3 v4
  clear z hc hb
  by_cases g0 : k1 = k2
  rotate_left
  · have d1 : (k1 == k2) = false := by rw [beq_eq_false_iff_ne]; exact g0
    have d2 : decide (k1 = k2) = false := decide_eq_false g0
    go_wp2_with fail
    go_ret
    exact ⟨ret_bool (by rw [HN0.out, d2]; simp), HB.out⟩
  subst g0
  by_cases g0 : a1 = a2
  rotate_left
  · have d1 : (a1 == a2) = false := by rw [beq_eq_false_iff_ne]; exact g0
    have d2 : decide (a1 = a2) = false := decide_eq_false g0
    go_wp2_with fail
    go_ret
    exact ⟨ret_bool (by rw [HN0.out, d2]; simp), HB.out⟩
  subst g0
  by_cases g0 : x1 = x2
  rotate_left
  · have d1 : (x1 == x2) = false := by rw [beq_eq_false_iff_ne]; exact g0
    have d2 : decide (x1 = x2) = false := decide_eq_false g0
    go_wp2_with fail
    go_ret
    exact ⟨ret_bool (by rw [HN0.out, d2]; simp), HB.out⟩
  subst g0
  by_cases g0 : y1 = y2
  rotate_left
  · have d1 : (y1 == y2) = false := by rw [beq_eq_false_iff_ne]; exact g0
    have d2 : decide (y1 = y2) = false := decide_eq_false g0
    go_wp2_with fail
    go_ret
    exact ⟨ret_bool (by rw [HN0.out, d2]; simp), HB.out⟩
  subst g0
  have HR : Hid (res = r) := Lib.hid (by rw [HN0.out]; simp)
  clear HN0
  by_cases hne : n1 = n2
  rotate_left
  · have Hf : Hid (r = false) := Lib.hid (by
      cases r with
      | false => rfl
      | true => exact absurd ((HE.out.1 rfl).1) hne)
    have d1 : ((n1 : Int) == n2) = false := by rw [beq_eq_false_iff_ne]; omega
    have d2 : decide ((n1 : Int) = n2) = false := decide_eq_false (by omega)
    go_wp2_with fail
    go_ret
    exact ⟨ret_bool (by rw [HR.out, Hf.out]), HB.out⟩
  have HT : Hid ((∀ i, i < n1 → Ins.eq (l.getD i default) (m.getD i default) = true) → r = true) := Lib.hid (fun h => HE.out.2 ⟨hne, h⟩)
  have HF : Hid (∀ i, i < n1 → Ins.eq (l.getD i default) (m.getD i default) = false → r = false) := Lib.hid (fun i hi h => by
    cases r with
    | false => rfl
    | true => have := (HE.out.1 rfl).2 i hi; rw [h] at this; cases this)
  have N2 := Lib.hid (hne.trans N2.out)
  subst hne
  clear HE
  go_wp2_with fail
  clear u0 u1 u2 u3 u4 v0 v1 v2 v3 v4
  go_loopw [5] (fun iv wr => ∃ k : Nat, k ≤ n1 ∧ iv = .int .i64 k ∧ (∀ i, i < k → Ins.eq (l.getD i default) (m.getD i default) = true) ∧ Below w1.heap.size w1 wr) (fun iv _ => n1 - (intOf iv).toNat)
  case atStart => exact ⟨0, by omega, rfl, fun i hi => by omega, Below.refl _ _⟩
  case round =>
    obtain ⟨k, hk, rfl, hall, hb⟩ := hrel
    have Hall := Lib.hid hall
    have Hb := Lib.hid (HB.out.trans (hb.mono HB.out.size))
    have Hb1 := Lib.hid hb
    clear hall hb
    have c0 := (HC.out wr Hb1.out 0).1
    have c00 := (HC.out wr Hb1.out 0).2
    simp only [List.getElem?_toArray, List.getElem?_cons_succ, List.getElem?_cons_zero] at c0 c00
    by_cases hlt : k < n1
    · obtain ⟨b, o, rfl, hb1, x0, x1, x2, x3⟩ := InsAt.cells H1.out (show k < l.length by rw [← N1.out]; exact hlt)
      obtain ⟨b', o', rfl, hb2, y0, y1, y2, y3⟩ := InsAt.cells H2.out (show k < m.length by rw [← N2.out]; exact hlt)
      have T : Hid (∀ W, Below wr.heap.size wr W → W.cell? ⟨w.heap.size, 0, none⟩ = some (.slice (some ⟨b, o, none⟩) n1 c) ∧ W.cell? ⟨w.heap.size + 1, 0, none⟩ = some (.slice (some ⟨b', o', none⟩) n1 c') ∧ W.cell? ⟨b, o + k * 4, none⟩ = some (.int .u8 (l.getD k default).op) ∧ W.cell? ⟨b, o + k * 4 + 1, none⟩ = some (.int .i64 (l.getD k default).arg) ∧ W.cell? ⟨b, o + k * 4 + 2, none⟩ = some (.int .u8 (l.getD k default).l.t) ∧ W.cell? ⟨b, o + k * 4 + 3, none⟩ = some (.int .u64 (l.getD k default).l.b) ∧ W.cell? ⟨b', o' + k * 4, none⟩ = some (.int .u8 (m.getD k default).op) ∧ W.cell? ⟨b', o' + k * 4 + 1, none⟩ = some (.int .i64 (m.getD k default).arg) ∧ W.cell? ⟨b', o' + k * 4 + 2, none⟩ = some (.int .u8 (m.getD k default).l.t) ∧ W.cell? ⟨b', o' + k * 4 + 3, none⟩ = some (.int .u64 (m.getD k default).l.b)) := Lib.hid (fun W hW => by
        have hW1 := Hb1.out.trans (hW.mono Hb1.out.size)
        have hW := Hb.out.trans (hW.mono Hb.out.size)
        exact ⟨(HC.out W hW1 0).1, (HC.out W hW1 0).2, (hW.cell (p := ⟨b, _, none⟩) (Nat.lt_of_lt_of_le hb1 hB)).trans x0, (hW.cell (p := ⟨b, _, none⟩) (Nat.lt_of_lt_of_le hb1 hB)).trans x1, (hW.cell (p := ⟨b, _, none⟩) (Nat.lt_of_lt_of_le hb1 hB)).trans x2, (hW.cell (p := ⟨b, _, none⟩) (Nat.lt_of_lt_of_le hb1 hB)).trans x3, (hW.cell (p := ⟨b', _, none⟩) (Nat.lt_of_lt_of_le hb2 hB)).trans y0, (hW.cell (p := ⟨b', _, none⟩) (Nat.lt_of_lt_of_le hb2 hB)).trans y1, (hW.cell (p := ⟨b', _, none⟩) (Nat.lt_of_lt_of_le hb2 hB)).trans y2, (hW.cell (p := ⟨b', _, none⟩) (Nat.lt_of_lt_of_le hb2 hB)).trans y3⟩)
      have HX : Hid (Ins.eq (l.getD k default) (m.getD k default) = (decide ((l.getD k default).op = (m.getD k default).op) && decide ((l.getD k default).arg = (m.getD k default).arg) && decide ((l.getD k default).l.t = (m.getD k default).l.t) && decide ((l.getD k default).l.b = (m.getD k default).l.b))) := Lib.hid (by simp [Vl.eq, Ins.eq, Bool.and_assoc])
      have HF1 := Lib.hid (HF.out k hlt)
      have HA1 : Hid (Ins.eq (l.getD k default) (m.getD k default) = true → ∀ i, i < k + 1 → Ins.eq (l.getD i default) (m.getD i default) = true) := Lib.hid (fun h i hi => by
        by_cases e : i = k
        · rw [e]; exact h
        · exact Hall.out i (by omega))
      clear x0 x1 x2 x3 y0 y1 y2 y3
      generalize Ins.eq (l.getD k default) (m.getD k default) = q at *
      generalize l.getD k default = a at *
      generalize m.getD k default = z at *
      generalize hd0 : decide (a.op = z.op) = e4 at *
      have f4 : (a.op == z.op) = e4 := hd0
      generalize hd1 : decide (a.arg = z.arg) = e5 at *
      have f5 : (a.arg == z.arg) = e5 := hd1
      generalize hd2 : decide (a.l.t = z.l.t) = e6 at *
      have f6 : (a.l.t == z.l.t) = e6 := hd2
      generalize hd3 : decide (a.l.b = z.l.b) = e7 at *
      have f7 : (a.l.b == z.l.b) = e7 := hd3
      clear hd0 hd1 hd2 hd3
      cases e4
      · have HN := Lib.hid (HF1.out (by rw [HX.out]; simp))
        go_upto_region 6 with (fail)
        apply wp_region_relH (H := []) 11 [(Sum.inl _ : TT), (Sum.inl _ : TT), (Sum.inl _ : TT), (Sum.inl _ : TT), (Sum.inl _ : TT), (Sum.inl _ : TT), (Sum.inl _ : TT), (Sum.inl _ : TT), (Sum.inl _ : TT), (Sum.inl _ : TT), (Sum.inl _ : TT)] (by kernel_rfl) (by kernel_rfl) (fun _ _ _ _ _ h => h) rfl
        simp only [List.take_succ_cons, List.take_zero, List.drop_succ_cons, List.drop_zero]
        iterate 11 (apply rel_isS; (intro W hW hf; obtain ⟨u0, u1, u2, u3, u4, u5, u6, u7, u8, u9⟩ := T.out W hW; go_simp; first | exact ⟨StayS.refl _ _, rfl⟩ | rfl); simp only [Act.put, List.setIfInBounds_toArray, List.set_cons_succ, List.set_cons_zero])
        refine rel_endS ?_
        intro W hW hf
        try simp only [Act.put, List.setIfInBounds_toArray, List.set_cons_succ, List.set_cons_zero]
        refine wpList_nil ?_
        have HW := Lib.hid (Hb.out.trans (hW.mono Hb.out.size))
        have HW1 := Lib.hid (Hb1.out.trans (hW.mono Hb1.out.size))
        clear hW hf
        go_wp2_with fail
        go_ret
        exact ⟨ret_bool (by rw [HR.out, HN.out]), HW.out⟩
      · skip
        cases e5
        · have HN := Lib.hid (HF1.out (by rw [HX.out]; simp))
          go_upto_region 6 with (fail)
          apply wp_region_relH (H := []) 11 [(Sum.inl _ : TT), (Sum.inl _ : TT), (Sum.inl _ : TT), (Sum.inl _ : TT), (Sum.inl _ : TT), (Sum.inl _ : TT), (Sum.inl _ : TT), (Sum.inl _ : TT), (Sum.inl _ : TT), (Sum.inl _ : TT), (Sum.inl _ : TT)] (by kernel_rfl) (by kernel_rfl) (fun _ _ _ _ _ h => h) rfl
          simp only [List.take_succ_cons, List.take_zero, List.drop_succ_cons, List.drop_zero]
          iterate 11 (apply rel_isS; (intro W hW hf; obtain ⟨u0, u1, u2, u3, u4, u5, u6, u7, u8, u9⟩ := T.out W hW; go_simp; first | exact ⟨StayS.refl _ _, rfl⟩ | rfl); simp only [Act.put, List.setIfInBounds_toArray, List.set_cons_succ, List.set_cons_zero])
          refine rel_endS ?_
          intro W hW hf
          try simp only [Act.put, List.setIfInBounds_toArray, List.set_cons_succ, List.set_cons_zero]
          refine wpList_nil ?_
          have HW := Lib.hid (Hb.out.trans (hW.mono Hb.out.size))
          have HW1 := Lib.hid (Hb1.out.trans (hW.mono Hb1.out.size))
          clear hW hf
          go_wp2_with fail
          go_ret
          exact ⟨ret_bool (by rw [HR.out, HN.out]), HW.out⟩
        · skip
          cases e6
          · have HN := Lib.hid (HF1.out (by rw [HX.out]; simp))
            go_upto_region 6 with (fail)
            apply wp_region_relH (H := []) 11 [(Sum.inl _ : TT), (Sum.inl _ : TT), (Sum.inl _ : TT), (Sum.inl _ : TT), (Sum.inl _ : TT), (Sum.inl _ : TT), (Sum.inl _ : TT), (Sum.inl _ : TT), (Sum.inl _ : TT), (Sum.inl _ : TT), (Sum.inl _ : TT)] (by kernel_rfl) (by kernel_rfl) (fun _ _ _ _ _ h => h) rfl
            simp only [List.take_succ_cons, List.take_zero, List.drop_succ_cons, List.drop_zero]
            iterate 11 (apply rel_isS; (intro W hW hf; obtain ⟨u0, u1, u2, u3, u4, u5, u6, u7, u8, u9⟩ := T.out W hW; go_simp; first | exact ⟨StayS.refl _ _, rfl⟩ | rfl); simp only [Act.put, List.setIfInBounds_toArray, List.set_cons_succ, List.set_cons_zero])
            refine rel_endS ?_
            intro W hW hf
            try simp only [Act.put, List.setIfInBounds_toArray, List.set_cons_succ, List.set_cons_zero]
            refine wpList_nil ?_
            have HW := Lib.hid (Hb.out.trans (hW.mono Hb.out.size))
            have HW1 := Lib.hid (Hb1.out.trans (hW.mono Hb1.out.size))
            clear hW hf
            go_wp2_with fail
            go_ret
            exact ⟨ret_bool (by rw [HR.out, HN.out]), HW.out⟩
          · skip
            cases e7
            · have HN := Lib.hid (HF1.out (by rw [HX.out]; simp))
              go_upto_region 6 with (fail)
              apply wp_region_relH (H := []) 11 [(Sum.inl _ : TT), (Sum.inl _ : TT), (Sum.inl _ : TT), (Sum.inl _ : TT), (Sum.inl _ : TT), (Sum.inl _ : TT), (Sum.inl _ : TT), (Sum.inl _ : TT), (Sum.inl _ : TT), (Sum.inl _ : TT), (Sum.inl _ : TT)] (by kernel_rfl) (by kernel_rfl) (fun _ _ _ _ _ h => h) rfl
              simp only [List.take_succ_cons, List.take_zero, List.drop_succ_cons, List.drop_zero]
              iterate 11 (apply rel_isS; (intro W hW hf; obtain ⟨u0, u1, u2, u3, u4, u5, u6, u7, u8, u9⟩ := T.out W hW; go_simp; first | exact ⟨StayS.refl _ _, rfl⟩ | rfl); simp only [Act.put, List.setIfInBounds_toArray, List.set_cons_succ, List.set_cons_zero])
              refine rel_endS ?_
              intro W hW hf
              try simp only [Act.put, List.setIfInBounds_toArray, List.set_cons_succ, List.set_cons_zero]
              refine wpList_nil ?_
              have HW := Lib.hid (Hb.out.trans (hW.mono Hb.out.size))
              have HW1 := Lib.hid (Hb1.out.trans (hW.mono Hb1.out.size))
              clear hW hf
              go_wp2_with fail
              go_ret
              exact ⟨ret_bool (by rw [HR.out, HN.out]), HW.out⟩
            · skip
              have HN := Lib.hid (HA1.out (by rw [HX.out]; rfl))
              go_upto_region 6 with (fail)
              apply wp_region_relH (H := []) 11 [(Sum.inl _ : TT), (Sum.inl _ : TT), (Sum.inl _ : TT), (Sum.inl _ : TT), (Sum.inl _ : TT), (Sum.inl _ : TT), (Sum.inl _ : TT), (Sum.inl _ : TT), (Sum.inl _ : TT), (Sum.inl _ : TT), (Sum.inl _ : TT)] (by kernel_rfl) (by kernel_rfl) (fun _ _ _ _ _ h => h) rfl
              simp only [List.take_succ_cons, List.take_zero, List.drop_succ_cons, List.drop_zero]
              iterate 11 (apply rel_isS; (intro W hW hf; obtain ⟨u0, u1, u2, u3, u4, u5, u6, u7, u8, u9⟩ := T.out W hW; go_simp; first | exact ⟨StayS.refl _ _, rfl⟩ | rfl); simp only [Act.put, List.setIfInBounds_toArray, List.set_cons_succ, List.set_cons_zero])
              refine rel_endS ?_
              intro W hW hf
              try simp only [Act.put, List.setIfInBounds_toArray, List.set_cons_succ, List.set_cons_zero]
              refine wpList_nil ?_
              have HW := Lib.hid (Hb.out.trans (hW.mono Hb.out.size))
              have HW1 := Lib.hid (Hb1.out.trans (hW.mono Hb1.out.size))
              clear hW hf
              go_wp2_with fail
              go_roundw
              case rel => exact ⟨k + 1, by omega, by go_num, HN.out, HW1.out⟩
              case measure => simp [intOf]; omega
    · obtain rfl : k = n1 := by omega
      have HN := Lib.hid (HT.out Hall.out)
      go_wp2_with fail
      go_ret
      exact ⟨ret_bool (by rw [HR.out, HN.out]), Hb.out⟩
end Go.Proofs.Ytbmpjphemjponaa
