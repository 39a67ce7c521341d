/- several texts in one: norm.taken, the reference's At: events in an order; events compared., events compared (printed by gen_eqev.py). -/
import Derived.Test.YtaalinhkikmfaaaE5
import Derived.Test.YtaalinhkikmfaaaE3
import Derived.Test.YtaalinhkikmfaaaEg
import Derived.Test.YtaalinhkikmfaaaMg12
import Derived.Test.YtaalinhkikmfaaaSg
section
set_option linter.unusedSimpArgs false
set_option linter.unusedVariables false
namespace Go.Proofs.Ytaalinhkikmfaaa
open Go.RowKit

theorem ev3_one (z : Ev) : ∀ u ∈ [Value.int .i64 z.t, .int .i64 z.k, .int .i64 z.o], u.oneCell' = true := by
  intro u hu
  simp only [List.mem_cons, List.not_mem_nil, or_false] at hu
  rcases hu with h | h | h <;> (rw [h]; rfl)
theorem evc3 (l : List Ev) (e : Ev) : evcells l ++ [.int .i64 e.t, .int .i64 e.k, .int .i64 e.o] = evcells (l ++ [e]) := (evcells_app l e).symm
theorem take_map_succ (l : List Ev) (o : List Nat) {k : Nat} (h : k < o.length) : (o.take (k + 1)).map (ev l) = (o.take k).map (ev l) ++ [ev l o[k]] := by
  rw [List.take_add_one, List.getElem?_eq_getElem h]
  simp only [Option.toList, List.map_append, List.map_cons, List.map_nil]
set_option maxRecDepth 100000 in
set_option maxHeartbeats 4000000 in
theorem taken_any (l : List Ev) (m : Nat) (hm : m = l.length) (hl : m ≤ 100000) (A : Option Addr) (cap : Nat) (o : List Nat) (q : Nat) (hq : q = o.length) (hql : q ≤ 100000) (Ao : Option Addr) (co B : Nat) (w : World) (hA : Evs w B A l) (hO : Rd w B Ao (icl o)) (hB : B ≤ w.heap.size) (ho : ∀ x ∈ o, x < m) :
    Calls Try.prog 45 #[.slice A m cap, .slice Ao q co] w fun e w' => ∃ v, e = .returned v ∧ w'.ownsRow w.heap.size 50 3 v q (evcells (o.map (ev l))) ∧ Below w.heap.size w w' := by
  have HA := Lib.hid hA; have HO := Lib.hid hO; have HM := Lib.hid hm; have HQ := Lib.hid hq; have HOL := Lib.hid ho
  clear hA hO hm hq ho
  go_enter Try.func45, Try.ntmps45
  go_wp2_with fail
  go_loopw [5, 10] (fun ov iv wr => ∃ k : Nat, k ≤ q ∧ iv = .int .i64 (k : Nat) ∧ wr.ownsRow w.heap.size 50 3 ov k (evcells ((o.take k).map (ev l))) ∧ Below w.heap.size w wr) (fun _ iv _ => q - (intOf iv).toNat)
  case atStart => exact ⟨0, by omega, by go_num, World.ownsRow_nil _ _ _ _, Below.refl _ _⟩
  case round =>
    obtain ⟨k, hk, rfl, hr, hb⟩ := hrel
    have HR := Lib.hid hr; have HB := Lib.hid hb
    by_cases hlt : k < q
    · have hko : k < o.length := by rw [← HQ.out]; exact hlt
      obtain ⟨x, hx⟩ : ∃ x, x = o[k] := ⟨_, rfl⟩
      have hxm : x < m := by rw [hx]; exact HOL.out _ (List.getElem_mem _)
      obtain ⟨bo, fo, rfl, hbo, e0⟩ := HO.out k _ (icl_get hko)
      rw [← hx] at e0
      obtain ⟨be, oe, rfl, hbe, e1, e2, e3⟩ := HA.out x (by rw [← HM.out]; exact hxm)
      have HST : Hid ((o.take (k + 1)).map (ev l) = (o.take k).map (ev l) ++ [ev l x]) := Lib.hid (by rw [take_map_succ l o hko, hx])
      have c0 := (hb.cell (p := ⟨bo, fo + k, none⟩) (Nat.lt_of_lt_of_le hbo hB)).trans e0
      have c1 := (hb.cell (p := ⟨be, oe + x * 3, none⟩) (Nat.lt_of_lt_of_le hbe hB)).trans e1
      have c2 := (hb.cell (p := ⟨be, oe + x * 3 + 1, none⟩) (Nat.lt_of_lt_of_le hbe hB)).trans e2
      have c3 := (hb.cell (p := ⟨be, oe + x * 3 + 2, none⟩) (Nat.lt_of_lt_of_le hbe hB)).trans e3
      obtain ⟨A5, c5, rfl, _⟩ := own_rdS HR.out
      generalize ev l x = z at *
      clear hr hb e0 e1 e2 e3 hx
      go_wp2_with (at_builtin; refine wpList_append_oneS ES3 [.int .i64 z.t, .int .i64 z.k, .int .i64 z.o] _ rfl rfl (.tmp 14) (.tmp 19) rfl w.heap.size (ev3_one z) 1 rfl _ k _ rfl HR.out rfl (by omega) (by omega) w (Nat.le_refl _) HB.out ?_; intro v' w' h2 h3 h4 h5; clear h4 h5; obtain ⟨g5, c6, rfl, _⟩ := own_rdS h2; have O2 := Lib.hid h2; have B2 := Lib.hid h3; clear h2 h3)
      refine ⟨⟨k + 1, by omega, by go_num, by rw [HST.out, evcells_app]; exact O2.out, B2.out⟩, by simp [intOf]; omega⟩
    · obtain rfl : k = q := by omega
      rw [HQ.out, List.take_length, ← HQ.out] at hr
      have HR2 := Lib.hid hr
      clear hr hb HR
      go_wp2_with fail
      go_ret
      exact ⟨_, rfl, HR2.out, HB.out⟩
set_option maxRecDepth 100000 in
set_option maxHeartbeats 4000000 in
theorem refat_any (l : List Ev) (m : Nat) (hm : m = l.length) (hl : m ≤ 100000) (A : Option Addr) (cap : Nat) (o : List Nat) (q : Nat) (hq : q = o.length) (hql : q ≤ 100000) (Ao : Option Addr) (co B : Nat) (w : World) (hA : Evs w B A l) (hO : Rd w B Ao (icl o)) (hB : B ≤ w.heap.size) (ho : ∀ x ∈ o, x < m) :
    Calls Try.prog 46 #[.slice A m cap, .slice Ao q co] w fun e w' => ∃ v, e = .returned v ∧ w'.ownsRow w.heap.size 50 3 v q (evcells (o.map (ev l))) ∧ Below w.heap.size w w' := by
  have HA := Lib.hid hA; have HO := Lib.hid hO; have HM := Lib.hid hm; have HQ := Lib.hid hq; have HOL := Lib.hid ho
  clear hA hO hm hq ho
  go_enter Try.func46, Try.ntmps46
  go_wp2_with fail
  go_loopw [5, 6] (fun ov iv wr => ∃ k : Nat, k ≤ q ∧ iv = .int .i64 (k : Nat) ∧ wr.ownsRow w.heap.size 50 3 ov k (evcells ((o.take k).map (ev l))) ∧ Below w.heap.size w wr) (fun _ iv _ => q - (intOf iv).toNat)
  case atStart => exact ⟨0, by omega, by go_num, World.ownsRow_nil _ _ _ _, Below.refl _ _⟩
  case round =>
    obtain ⟨k, hk, rfl, hr, hb⟩ := hrel
    have HR := Lib.hid hr; have HB := Lib.hid hb
    by_cases hlt : k < q
    · have hko : k < o.length := by rw [← HQ.out]; exact hlt
      obtain ⟨x, hx⟩ : ∃ x, x = o[k] := ⟨_, rfl⟩
      have hxm : x < m := by rw [hx]; exact HOL.out _ (List.getElem_mem _)
      obtain ⟨bo, fo, rfl, hbo, e0⟩ := HO.out k _ (icl_get hko)
      rw [← hx] at e0
      obtain ⟨be, oe, rfl, hbe, e1, e2, e3⟩ := HA.out x (by rw [← HM.out]; exact hxm)
      have HST : Hid ((o.take (k + 1)).map (ev l) = (o.take k).map (ev l) ++ [ev l x]) := Lib.hid (by rw [take_map_succ l o hko, hx])
      have c0 := (hb.cell (p := ⟨bo, fo + k, none⟩) (Nat.lt_of_lt_of_le hbo hB)).trans e0
      have c1 := (hb.cell (p := ⟨be, oe + x * 3, none⟩) (Nat.lt_of_lt_of_le hbe hB)).trans e1
      have c2 := (hb.cell (p := ⟨be, oe + x * 3 + 1, none⟩) (Nat.lt_of_lt_of_le hbe hB)).trans e2
      have c3 := (hb.cell (p := ⟨be, oe + x * 3 + 2, none⟩) (Nat.lt_of_lt_of_le hbe hB)).trans e3
      obtain ⟨A5, c5, rfl, _⟩ := own_rdS HR.out
      generalize ev l x = z at *
      clear hr hb e0 e1 e2 e3 hx
      go_wp2_with (at_builtin; refine wpList_append_oneS ES3 [.int .i64 z.t, .int .i64 z.k, .int .i64 z.o] _ rfl rfl (.tmp 13) (.tmp 21) rfl w.heap.size (ev3_one z) 1 rfl _ k _ rfl HR.out rfl (by omega) (by omega) w (Nat.le_refl _) HB.out ?_; intro v' w' h2 h3 h4 h5; clear h4 h5; obtain ⟨g5, c6, rfl, _⟩ := own_rdS h2; have O2 := Lib.hid h2; have B2 := Lib.hid h3; clear h2 h3)
      refine ⟨⟨k + 1, by omega, by go_num, by rw [HST.out, evcells_app]; exact O2.out, B2.out⟩, by simp [intOf]; omega⟩
    · obtain rfl : k = q := by omega
      rw [HQ.out, List.take_length, ← HQ.out] at hr
      have HR2 := Lib.hid hr
      clear hr hb HR
      go_wp2_with fail
      go_ret
      exact ⟨_, rfl, HR2.out, HB.out⟩
end Go.Proofs.Ytaalinhkikmfaaa
end

section
set_option linter.unusedSimpArgs false
set_option linter.unusedVariables false
namespace Go.Proofs.Ytaalinhkikmfaaa
open Go.RowKit

theorem ev_ext {la lb : List Ev} (h : la.length = lb.length) (he : ∀ j, j < la.length → ev la j = ev lb j) : la = lb := by
  apply List.ext_getElem h
  intro i h1 h2
  have := he i h1
  simpa [ev, h1, h2] using this
set_option maxRecDepth 100000 in
set_option maxHeartbeats 4000000 in
theorem same_evs (la lb : List Ev) (n m : Nat) (hn : n = la.length) (hm : m = lb.length) (hn2 : n ≤ 1000000) (hm2 : m ≤ 1000000) (A A' : Option Addr) (c c' B : Nat) (w : World) (hA : Evs w B A la) (hA' : Evs w B A' lb) (hB : B ≤ w.heap.size) :
    Calls Try.prog 28 #[.slice A n c, .slice A' m c'] w fun e w' => e = .returned (.bool (decide (la = lb))) ∧ Below w.heap.size w w' := by
  have HA := Lib.hid hA; have HA' := Lib.hid hA'; have HN := Lib.hid hn; have HM := Lib.hid hm
  clear hA hA' hn hm
  by_cases hnm : n = m
  rotate_left
  · have HNE : Hid (¬ la = lb) := Lib.hid fun e => hnm (by rw [HN.out, HM.out, e])
    have d0 : ((n : Int) == (m : Int)) = false := by rw [beq_eq_false_iff_ne]; omega
    have d1 : ((n : Int) != (m : Int)) = true := by rw [bne_iff_ne]; omega
    clear hnm
    go_enter Try.func28, Try.ntmps28
    go_wp2_with fail
    go_ret
    exact ⟨ret_bool (decide_eq_false HNE.out).symm, Below.refl _ _⟩
  subst hnm
  go_enter Try.func28, Try.ntmps28
  go_wp2_with fail
  go_loopw [5] (fun i wr => ∃ k : Nat, k ≤ n ∧ i = .int .i64 (k : Nat) ∧ (∀ j, j < k → ev la j = ev lb j) ∧ Below w.heap.size w wr) (fun i _ => n - (intOf i).toNat)
  case atStart => exact ⟨0, by omega, by go_num, fun j hj => by omega, Below.refl _ _⟩
  case round =>
    obtain ⟨k, hk, rfl, hs, hb⟩ := hrel
    have Hb := Lib.hid hb; have HS := Lib.hid hs
    clear hb hs
    by_cases hlt : k < n
    · obtain ⟨b, o, rfl, h0, h1, h2, h3⟩ := HA.out k (by rw [← HN.out]; exact hlt)
      obtain ⟨b', o', rfl, h0', h1', h2', h3'⟩ := HA'.out k (by rw [← HM.out]; exact hlt)
      have HNX : Hid (ev la k ≠ ev lb k → ¬ la = lb) := Lib.hid fun h e => h (by rw [e])
      have HEQ : Hid (ev la k = ev lb k → ∀ j, j < k + 1 → ev la j = ev lb j) := Lib.hid fun h j hj => by
        by_cases e : j = k
        · rw [e]; exact h
        · exact HS.out j (by omega)
      generalize ev la k = x at *
      generalize ev lb k = y at *
      obtain ⟨xt, xk, xo⟩ := x
      obtain ⟨yt, yk, yo⟩ := y
      have T : Hid (∀ W, Below wr.heap.size wr W → W.cell? ⟨b, o + k * 3, none⟩ = some (.int .i64 xt) ∧ W.cell? ⟨b, o + k * 3 + 1, none⟩ = some (.int .i64 xk) ∧ W.cell? ⟨b, o + k * 3 + 2, none⟩ = some (.int .i64 xo) ∧ W.cell? ⟨b', o' + k * 3, none⟩ = some (.int .i64 yt) ∧ W.cell? ⟨b', o' + k * 3 + 1, none⟩ = some (.int .i64 yk) ∧ W.cell? ⟨b', o' + k * 3 + 2, none⟩ = some (.int .i64 yo)) := Lib.hid (fun W hW => by
        have hW := Hb.out.trans (hW.mono Hb.out.size)
        exact ⟨(hW.cell (p := ⟨b, _, none⟩) (Nat.lt_of_lt_of_le h0 hB)).trans h1, (hW.cell (p := ⟨b, _, none⟩) (Nat.lt_of_lt_of_le h0 hB)).trans h2, (hW.cell (p := ⟨b, _, none⟩) (Nat.lt_of_lt_of_le h0 hB)).trans h3, (hW.cell (p := ⟨b', _, none⟩) (Nat.lt_of_lt_of_le h0' hB)).trans h1', (hW.cell (p := ⟨b', _, none⟩) (Nat.lt_of_lt_of_le h0' hB)).trans h2', (hW.cell (p := ⟨b', _, none⟩) (Nat.lt_of_lt_of_le h0' hB)).trans h3'⟩)
      clear h1 h2 h3 h1' h2' h3'
      by_cases et : xt = yt
      rotate_left
      · have d1 : (xt == yt) = false := by rw [beq_eq_false_iff_ne]; exact et
        have HNE : Hid (¬ la = lb) := Lib.hid (HNX.out fun e => et (by injection e))
        clear et
        go_upto_region 6 with (fail)
        apply wp_region_relH (H := []) 9 [(Sum.inl _ : TT), (Sum.inl _ : TT), (Sum.inl _ : TT), (Sum.inl _ : TT), (Sum.inl _ : TT), (Sum.inl _ : TT), (Sum.inl _ : TT), (Sum.inl _ : TT), (Sum.inl _ : TT)] (by kernel_rfl) (by kernel_rfl) (fun _ _ _ _ _ h => h) rfl
        simp only [List.take_succ_cons, List.take_zero, List.drop_succ_cons, List.drop_zero]
        iterate 9 (apply rel_isS; (intro W hW hf; obtain ⟨hx1, hx2, hx3, hx4, hx5, hx6⟩ := T.out W hW; go_simp; first | exact ⟨StayS.refl _ _, rfl⟩ | rfl); simp only [Act.put, List.setIfInBounds_toArray, List.set_cons_succ, List.set_cons_zero])
        refine rel_endS ?_
        intro W hW hf
        try simp only [Act.put, List.setIfInBounds_toArray, List.set_cons_succ, List.set_cons_zero]
        refine wpList_nil ?_
        have HW := Lib.hid (Hb.out.trans (hW.mono Hb.out.size))
        clear hW hf
        go_wp2_with fail
        go_ret
        exact ⟨ret_bool (decide_eq_false HNE.out).symm, HW.out⟩
      subst et
      by_cases ek : xk = yk
      rotate_left
      · have d1 : (xk == yk) = false := by rw [beq_eq_false_iff_ne]; exact ek
        have HNE : Hid (¬ la = lb) := Lib.hid (HNX.out fun e => ek (by injection e))
        clear ek
        go_upto_region 6 with (fail)
        apply wp_region_relH (H := []) 9 [(Sum.inl _ : TT), (Sum.inl _ : TT), (Sum.inl _ : TT), (Sum.inl _ : TT), (Sum.inl _ : TT), (Sum.inl _ : TT), (Sum.inl _ : TT), (Sum.inl _ : TT), (Sum.inl _ : TT)] (by kernel_rfl) (by kernel_rfl) (fun _ _ _ _ _ h => h) rfl
        simp only [List.take_succ_cons, List.take_zero, List.drop_succ_cons, List.drop_zero]
        iterate 9 (apply rel_isS; (intro W hW hf; obtain ⟨hx1, hx2, hx3, hx4, hx5, hx6⟩ := T.out W hW; go_simp; first | exact ⟨StayS.refl _ _, rfl⟩ | rfl); simp only [Act.put, List.setIfInBounds_toArray, List.set_cons_succ, List.set_cons_zero])
        refine rel_endS ?_
        intro W hW hf
        try simp only [Act.put, List.setIfInBounds_toArray, List.set_cons_succ, List.set_cons_zero]
        refine wpList_nil ?_
        have HW := Lib.hid (Hb.out.trans (hW.mono Hb.out.size))
        clear hW hf
        go_wp2_with fail
        go_ret
        exact ⟨ret_bool (decide_eq_false HNE.out).symm, HW.out⟩
      subst ek
      by_cases eo : xo = yo
      rotate_left
      · have d1 : (xo == yo) = false := by rw [beq_eq_false_iff_ne]; exact eo
        have HNE : Hid (¬ la = lb) := Lib.hid (HNX.out fun e => eo (by injection e))
        clear eo
        go_upto_region 6 with (fail)
        apply wp_region_relH (H := []) 9 [(Sum.inl _ : TT), (Sum.inl _ : TT), (Sum.inl _ : TT), (Sum.inl _ : TT), (Sum.inl _ : TT), (Sum.inl _ : TT), (Sum.inl _ : TT), (Sum.inl _ : TT), (Sum.inl _ : TT)] (by kernel_rfl) (by kernel_rfl) (fun _ _ _ _ _ h => h) rfl
        simp only [List.take_succ_cons, List.take_zero, List.drop_succ_cons, List.drop_zero]
        iterate 9 (apply rel_isS; (intro W hW hf; obtain ⟨hx1, hx2, hx3, hx4, hx5, hx6⟩ := T.out W hW; go_simp; first | exact ⟨StayS.refl _ _, rfl⟩ | rfl); simp only [Act.put, List.setIfInBounds_toArray, List.set_cons_succ, List.set_cons_zero])
        refine rel_endS ?_
        intro W hW hf
        try simp only [Act.put, List.setIfInBounds_toArray, List.set_cons_succ, List.set_cons_zero]
        refine wpList_nil ?_
        have HW := Lib.hid (Hb.out.trans (hW.mono Hb.out.size))
        clear hW hf
        go_wp2_with fail
        go_ret
        exact ⟨ret_bool (decide_eq_false HNE.out).symm, HW.out⟩
      subst eo
      have HEE := Lib.hid (HEQ.out rfl)
      go_upto_region 6 with (fail)
      apply wp_region_relH (H := []) 9 [(Sum.inl _ : TT), (Sum.inl _ : TT), (Sum.inl _ : TT), (Sum.inl _ : TT), (Sum.inl _ : TT), (Sum.inl _ : TT), (Sum.inl _ : TT), (Sum.inl _ : TT), (Sum.inl _ : TT)] (by kernel_rfl) (by kernel_rfl) (fun _ _ _ _ _ h => h) rfl
      simp only [List.take_succ_cons, List.take_zero, List.drop_succ_cons, List.drop_zero]
      iterate 9 (apply rel_isS; (intro W hW hf; obtain ⟨hx1, hx2, hx3, hx4, hx5, hx6⟩ := T.out W hW; go_simp; first | exact ⟨StayS.refl _ _, rfl⟩ | rfl); simp only [Act.put, List.setIfInBounds_toArray, List.set_cons_succ, List.set_cons_zero])
      refine rel_endS ?_
      intro W hW hf
      try simp only [Act.put, List.setIfInBounds_toArray, List.set_cons_succ, List.set_cons_zero]
      refine wpList_nil ?_
      have HW := Lib.hid (Hb.out.trans (hW.mono Hb.out.size))
      clear hW hf
      go_wp2_with fail
      go_roundw
      case rel => exact ⟨k + 1, by omega, by go_num, HEE.out, HW.out⟩
      case measure => simp [intOf]; omega
    · obtain rfl : n = k := by omega
      have HE : Hid (la = lb) := Lib.hid (ev_ext (HN.out.symm.trans HM.out) (fun j hj => HS.out j (by rw [HN.out]; exact hj)))
      go_wp2_with fail
      go_ret
      exact ⟨ret_bool (decide_eq_true HE.out).symm, Hb.out⟩
set_option maxRecDepth 100000 in
set_option maxHeartbeats 4000000 in
theorem equal_evs (la lb : List Ev) (n m : Nat) (hn : n = la.length) (hm : m = lb.length) (hn2 : n ≤ 1000000) (hm2 : m ≤ 1000000) (A A' : Option Addr) (c c' B : Nat) (w : World) (hA : Evs w B A la) (hA' : Evs w B A' lb) (hB : B ≤ w.heap.size) :
    Calls Try.prog 44 #[.slice A n c, .slice A' m c'] w fun e w' => e = .returned (.bool (decide (la = lb))) ∧ Below w.heap.size w w' := by
  have HA := Lib.hid hA; have HA' := Lib.hid hA'; have HN := Lib.hid hn; have HM := Lib.hid hm
  clear hA hA' hn hm
  by_cases hnm : n = m
  rotate_left
  · have HNE : Hid (¬ la = lb) := Lib.hid fun e => hnm (by rw [HN.out, HM.out, e])
    have d0 : ((n : Int) == (m : Int)) = false := by rw [beq_eq_false_iff_ne]; omega
    have d1 : ((n : Int) != (m : Int)) = true := by rw [bne_iff_ne]; omega
    clear hnm
    go_enter Try.func44, Try.ntmps44
    go_wp2_with fail
    go_ret
    exact ⟨ret_bool (decide_eq_false HNE.out).symm, Below.refl _ _⟩
  subst hnm
  go_enter Try.func44, Try.ntmps44
  go_wp2_with fail
  go_loopw [13] (fun i wr => ∃ k : Nat, k ≤ n ∧ i = .int .i64 (k : Nat) ∧ (∀ j, j < k → ev la j = ev lb j) ∧ Below w.heap.size w wr) (fun i _ => n - (intOf i).toNat)
  case atStart => exact ⟨0, by omega, by go_num, fun j hj => by omega, Below.refl _ _⟩
  case round =>
    obtain ⟨k, hk, rfl, hs, hb⟩ := hrel
    have Hb := Lib.hid hb; have HS := Lib.hid hs
    clear hb hs
    by_cases hlt : k < n
    · obtain ⟨b, o, rfl, h0, h1, h2, h3⟩ := HA.out k (by rw [← HN.out]; exact hlt)
      obtain ⟨b', o', rfl, h0', h1', h2', h3'⟩ := HA'.out k (by rw [← HM.out]; exact hlt)
      have HNX : Hid (ev la k ≠ ev lb k → ¬ la = lb) := Lib.hid fun h e => h (by rw [e])
      have HEQ : Hid (ev la k = ev lb k → ∀ j, j < k + 1 → ev la j = ev lb j) := Lib.hid fun h j hj => by
        by_cases e : j = k
        · rw [e]; exact h
        · exact HS.out j (by omega)
      generalize ev la k = x at *
      generalize ev lb k = y at *
      obtain ⟨xt, xk, xo⟩ := x
      obtain ⟨yt, yk, yo⟩ := y
      have T : Hid (∀ W, Below wr.heap.size wr W → W.cell? ⟨b, o + k * 3, none⟩ = some (.int .i64 xt) ∧ W.cell? ⟨b, o + k * 3 + 1, none⟩ = some (.int .i64 xk) ∧ W.cell? ⟨b, o + k * 3 + 2, none⟩ = some (.int .i64 xo) ∧ W.cell? ⟨b', o' + k * 3, none⟩ = some (.int .i64 yt) ∧ W.cell? ⟨b', o' + k * 3 + 1, none⟩ = some (.int .i64 yk) ∧ W.cell? ⟨b', o' + k * 3 + 2, none⟩ = some (.int .i64 yo)) := Lib.hid (fun W hW => by
        have hW := Hb.out.trans (hW.mono Hb.out.size)
        exact ⟨(hW.cell (p := ⟨b, _, none⟩) (Nat.lt_of_lt_of_le h0 hB)).trans h1, (hW.cell (p := ⟨b, _, none⟩) (Nat.lt_of_lt_of_le h0 hB)).trans h2, (hW.cell (p := ⟨b, _, none⟩) (Nat.lt_of_lt_of_le h0 hB)).trans h3, (hW.cell (p := ⟨b', _, none⟩) (Nat.lt_of_lt_of_le h0' hB)).trans h1', (hW.cell (p := ⟨b', _, none⟩) (Nat.lt_of_lt_of_le h0' hB)).trans h2', (hW.cell (p := ⟨b', _, none⟩) (Nat.lt_of_lt_of_le h0' hB)).trans h3'⟩)
      clear h1 h2 h3 h1' h2' h3'
      by_cases et : xt = yt
      rotate_left
      · have d1 : (xt == yt) = false := by rw [beq_eq_false_iff_ne]; exact et
        have HNE : Hid (¬ la = lb) := Lib.hid (HNX.out fun e => et (by injection e))
        clear et
        go_upto_region 6 with (fail)
        apply wp_region_relH (H := []) 9 [(Sum.inl _ : TT), (Sum.inl _ : TT), (Sum.inl _ : TT), (Sum.inl _ : TT), (Sum.inl _ : TT), (Sum.inl _ : TT), (Sum.inl _ : TT), (Sum.inl _ : TT), (Sum.inl _ : TT)] (by kernel_rfl) (by kernel_rfl) (fun _ _ _ _ _ h => h) rfl
        simp only [List.take_succ_cons, List.take_zero, List.drop_succ_cons, List.drop_zero]
        iterate 9 (apply rel_isS; (intro W hW hf; obtain ⟨hx1, hx2, hx3, hx4, hx5, hx6⟩ := T.out W hW; go_simp; first | exact ⟨StayS.refl _ _, rfl⟩ | rfl); simp only [Act.put, List.setIfInBounds_toArray, List.set_cons_succ, List.set_cons_zero])
        refine rel_endS ?_
        intro W hW hf
        try simp only [Act.put, List.setIfInBounds_toArray, List.set_cons_succ, List.set_cons_zero]
        refine wpList_nil ?_
        have HW := Lib.hid (Hb.out.trans (hW.mono Hb.out.size))
        clear hW hf
        go_wp2_with fail
        go_ret
        exact ⟨ret_bool (decide_eq_false HNE.out).symm, HW.out⟩
      subst et
      by_cases ek : xk = yk
      rotate_left
      · have d1 : (xk == yk) = false := by rw [beq_eq_false_iff_ne]; exact ek
        have HNE : Hid (¬ la = lb) := Lib.hid (HNX.out fun e => ek (by injection e))
        clear ek
        go_upto_region 6 with (fail)
        apply wp_region_relH (H := []) 9 [(Sum.inl _ : TT), (Sum.inl _ : TT), (Sum.inl _ : TT), (Sum.inl _ : TT), (Sum.inl _ : TT), (Sum.inl _ : TT), (Sum.inl _ : TT), (Sum.inl _ : TT), (Sum.inl _ : TT)] (by kernel_rfl) (by kernel_rfl) (fun _ _ _ _ _ h => h) rfl
        simp only [List.take_succ_cons, List.take_zero, List.drop_succ_cons, List.drop_zero]
        iterate 9 (apply rel_isS; (intro W hW hf; obtain ⟨hx1, hx2, hx3, hx4, hx5, hx6⟩ := T.out W hW; go_simp; first | exact ⟨StayS.refl _ _, rfl⟩ | rfl); simp only [Act.put, List.setIfInBounds_toArray, List.set_cons_succ, List.set_cons_zero])
        refine rel_endS ?_
        intro W hW hf
        try simp only [Act.put, List.setIfInBounds_toArray, List.set_cons_succ, List.set_cons_zero]
        refine wpList_nil ?_
        have HW := Lib.hid (Hb.out.trans (hW.mono Hb.out.size))
        clear hW hf
        go_wp2_with fail
        go_ret
        exact ⟨ret_bool (decide_eq_false HNE.out).symm, HW.out⟩
      subst ek
      by_cases eo : xo = yo
      rotate_left
      · have d1 : (xo == yo) = false := by rw [beq_eq_false_iff_ne]; exact eo
        have HNE : Hid (¬ la = lb) := Lib.hid (HNX.out fun e => eo (by injection e))
        clear eo
        go_upto_region 6 with (fail)
        apply wp_region_relH (H := []) 9 [(Sum.inl _ : TT), (Sum.inl _ : TT), (Sum.inl _ : TT), (Sum.inl _ : TT), (Sum.inl _ : TT), (Sum.inl _ : TT), (Sum.inl _ : TT), (Sum.inl _ : TT), (Sum.inl _ : TT)] (by kernel_rfl) (by kernel_rfl) (fun _ _ _ _ _ h => h) rfl
        simp only [List.take_succ_cons, List.take_zero, List.drop_succ_cons, List.drop_zero]
        iterate 9 (apply rel_isS; (intro W hW hf; obtain ⟨hx1, hx2, hx3, hx4, hx5, hx6⟩ := T.out W hW; go_simp; first | exact ⟨StayS.refl _ _, rfl⟩ | rfl); simp only [Act.put, List.setIfInBounds_toArray, List.set_cons_succ, List.set_cons_zero])
        refine rel_endS ?_
        intro W hW hf
        try simp only [Act.put, List.setIfInBounds_toArray, List.set_cons_succ, List.set_cons_zero]
        refine wpList_nil ?_
        have HW := Lib.hid (Hb.out.trans (hW.mono Hb.out.size))
        clear hW hf
        go_wp2_with fail
        go_ret
        exact ⟨ret_bool (decide_eq_false HNE.out).symm, HW.out⟩
      subst eo
      have HEE := Lib.hid (HEQ.out rfl)
      go_upto_region 6 with (fail)
      apply wp_region_relH (H := []) 9 [(Sum.inl _ : TT), (Sum.inl _ : TT), (Sum.inl _ : TT), (Sum.inl _ : TT), (Sum.inl _ : TT), (Sum.inl _ : TT), (Sum.inl _ : TT), (Sum.inl _ : TT), (Sum.inl _ : TT)] (by kernel_rfl) (by kernel_rfl) (fun _ _ _ _ _ h => h) rfl
      simp only [List.take_succ_cons, List.take_zero, List.drop_succ_cons, List.drop_zero]
      iterate 9 (apply rel_isS; (intro W hW hf; obtain ⟨hx1, hx2, hx3, hx4, hx5, hx6⟩ := T.out W hW; go_simp; first | exact ⟨StayS.refl _ _, rfl⟩ | rfl); simp only [Act.put, List.setIfInBounds_toArray, List.set_cons_succ, List.set_cons_zero])
      refine rel_endS ?_
      intro W hW hf
      try simp only [Act.put, List.setIfInBounds_toArray, List.set_cons_succ, List.set_cons_zero]
      refine wpList_nil ?_
      have HW := Lib.hid (Hb.out.trans (hW.mono Hb.out.size))
      clear hW hf
      go_wp2_with fail
      go_roundw
      case rel => exact ⟨k + 1, by omega, by go_num, HEE.out, HW.out⟩
      case measure => simp [intOf]; omega
    · obtain rfl : n = k := by omega
      have HE : Hid (la = lb) := Lib.hid (ev_ext (HN.out.symm.trans HM.out) (fun j hj => HS.out j (by rw [HN.out]; exact hj)))
      go_wp2_with fail
      go_ret
      exact ⟨ret_bool (decide_eq_true HE.out).symm, Hb.out⟩
end Go.Proofs.Ytaalinhkikmfaaa
end
