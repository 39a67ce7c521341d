/- assizeref14.Pending. -/
import Derived.Test.YtkcpoebepiipoaaLj
import Derived.Test.YtkcpoebepiipoaaLh
import Derived.Test.YtkcpoebepiipoaaGh
set_option linter.unusedSimpArgs false
set_option linter.unusedVariables false
namespace Go.Proofs.Ytkcpoebepiipoaa
open Go.RowKit
def pk (ps : List (Nat × Nat)) (k m : Nat) : List Nat := ((List.range k).filter fun t => decide ((pr ps t).2 = m)).map fun t => (pr ps t).1
theorem pk_succ (ps : List (Nat × Nat)) (k m : Nat) : pk ps (k + 1) m = if (pr ps k).2 = m then pk ps k m ++ [(pr ps k).1] else pk ps k m := by
  unfold pk
  rw [List.range_succ, List.filter_append]
  by_cases h : (pr ps k).2 = m <;> simp [h]
theorem pk_le (ps : List (Nat × Nat)) (k m : Nat) : (pk ps k m).length ≤ k := by
  unfold pk
  rw [List.length_map]
  exact Nat.le_trans (List.length_filter_le _ _) (by simp)
theorem pr_range (ps : List (Nat × Nat)) : (List.range ps.length).map (pr ps) = ps := by
  apply List.ext_getElem?
  intro i
  by_cases h : i < ps.length
  · simp [pr, h, List.getD_eq_getElem?_getD]
  · simp [h]
theorem pk_full (ps : List (Nat × Nat)) (m : Nat) : pk ps ps.length m = (ps.filter fun p => decide (p.2 = m)).map (·.1) := by
  have h := pr_range ps
  unfold pk
  conv => rhs; rw [← h]
  rw [List.filter_map, List.map_map]
  rfl
theorem pend_of_races (l : List Ev) (m : Nat) : ((sifted (raceB l) (upTo l (m + 1))).filter fun p => decide (p.2 = m)).map (·.1) = pend l m m := by
  have h1 : (sifted (raceB l) (upTo l m)).filter (fun p => decide (p.2 = m)) = [] := by
    rw [List.filter_eq_nil_iff]
    rintro ⟨i, j⟩ hp
    have := (List.mem_filter.1 hp).1
    unfold upTo at this
    obtain ⟨j', h1, h2⟩ := List.mem_flatMap.1 this
    unfold upRow at h2
    obtain ⟨i', h3, h4⟩ := List.mem_map.1 h2
    injection h4 with e1 e2
    have : j' < m := by simpa using h1
    simp only [decide_eq_true_eq]
    omega
  rw [upTo_succ]
  unfold sifted at h1 ⊢
  rw [List.filter_append, List.filter_append, h1, List.nil_append]
  unfold upRow pend
  rw [List.filter_map, List.filter_map, List.map_map, List.filter_filter, List.filter_filter]
  have e : ((fun p : Nat × Nat => p.1) ∘ fun i => (i, m)) = id := rfl
  rw [e, List.map_id]
  apply List.filter_congr
  intro i _
  simp [Bool.and_comm]
set_option maxRecDepth 100000 in
set_option maxHeartbeats 4000000 in
theorem refpending_any (l : List Ev) (m : Nat) (hm : m = l.length) (hl : m ≤ 1900) (n : Int) (e : Ev) (A : Option Addr) (cap : Nat) (B : Nat) (w : World) (hA : Evs w B A l) (hB : B ≤ w.heap.size) (hA0 : A = none → m = 0) :
    Calls Try.prog 13 #[.slice A m cap, .int .i64 n, e.v] w (NumsP w (wrongE (l ++ [e]) n) (pendL l n e)) := by
  have HA := Lib.hid (hA.more hB); have HA0 := Lib.hid hA0; have HM := Lib.hid hm
  clear hA hA0 hm
  obtain ⟨et, ek, eo⟩ := e
  have He : Hid (Ev.v ⟨et, ek, eo⟩ = .agg #[.int .i64 et, .int .i64 ek, .int .i64 eo]) := Lib.hid rfl
  rw [He.out]
  obtain ⟨er, her⟩ : ∃ er, er = wrongE (l ++ [(⟨et, ek, eo⟩ : Ev)]) n := ⟨_, rfl⟩
  obtain ⟨pl, hpl⟩ : ∃ pl, pl = pendL l n ⟨et, ek, eo⟩ := ⟨_, rfl⟩
  rw [← her, ← hpl]
  have Her := Lib.hid her; have Hpl := Lib.hid hpl
  clear her hpl
  go_enter Try.func13, Try.ntmps13
  go_upto_region 1 with (fail)
  have hb1 := below_alloc w (.cells #[.int .i64 et, .int .i64 ek, .int .i64 eo] 24)
  have hx1 := heap_alloc_new w (.cells #[.int .i64 et, .int .i64 ek, .int .i64 eo] 24)
  generalize w.alloc (.cells #[.int .i64 et, .int .i64 ek, .int .i64 eo] 24) = w1 at *
  have HB1 := Lib.hid hb1; have HX1 := Lib.hid hx1
  clear hb1 hx1
  have T : Hid (∀ W, Below w1.heap.size w1 W → W.cell? ⟨w.heap.size, 0, none⟩ = some (.int .i64 et) ∧ W.cell? ⟨w.heap.size, 1, none⟩ = some (.int .i64 ek) ∧ W.cell? ⟨w.heap.size, 2, none⟩ = some (.int .i64 eo)) := Lib.hid (fun W hW => by
    have hx := (hW.block _ (lt_blk HX1.out)).trans HX1.out
    exact ⟨by rw [cell_blk hx]; rfl, by rw [cell_blk hx]; rfl, by rw [cell_blk hx]; rfl⟩)
  apply wp_region_relH (H := []) 5 [.inr (NewR w1.heap.size 24 #[] 0), (Sum.inl _ : TT), .inr (OwnRS w1.heap.size 24 3 m (evcells l)), (Sum.inl _ : TT), .inr (NewR w1.heap.size 24 #[.int .i64 et, .int .i64 ek, .int .i64 eo] 1)] (by kernel_rfl) (by kernel_rfl) (fun _ _ _ _ _ h => h) rfl
  simp only [List.take_succ_cons, List.take_zero, List.drop_succ_cons, List.drop_zero]
  refine rel_fitsS (fun W hW hf => ?_) (NewR.keepsS _ _ _ _) fun v0 => ?_
  · go_simp
    exact newR_alloc hW (Nat.le_refl _)
  simp only [Act.put, List.setIfInBounds_toArray, List.set_cons_succ, List.set_cons_zero]
  iterate 1 (apply rel_isS; (intro W hW hf; go_simp; first | exact ⟨StayS.refl _ _, rfl⟩ | rfl); simp only [Act.put, List.setIfInBounds_toArray, List.set_cons_succ, List.set_cons_zero])
  refine rel_fitsS (fun W hW hf => ?_) (OwnRS.keepsS _ _ _ _ _) fun v1 => ?_
  · have h0 := hf (13, NewR w1.heap.size 24 #[] 0 v0) (by simp) (by simp [Oper.looksAt, Op.operands, Call.operands])
    exact relOp_append_emptyS ES3 hW rfl (.tmp 13) (.tmp 14) rfl v0 h0 rfl w.heap.size A (evcells l) m cap rfl (by rw [evcells_length, HM.out]) ((HA.out.below (HB1.out.trans (hW.mono HB1.out.size))).rd) HA0.out (evcells_one l) (by omega) (by omega)
  simp only [Act.put, List.setIfInBounds_toArray, List.set_cons_succ, List.set_cons_zero]
  iterate 1 (apply rel_isS; (intro W hW hf; obtain ⟨hx1, hx2, hx3⟩ := T.out W hW; go_simp; first | exact ⟨StayS.refl _ _, rfl⟩ | rfl); simp only [Act.put, List.setIfInBounds_toArray, List.set_cons_succ, List.set_cons_zero])
  refine rel_fitsS (fun W hW hf => ?_) (NewR.keepsS _ _ _ _) fun v2 => ?_
  · go_simp
    exact newR_alloc hW (Nat.le_refl _)
  refine rel_endS ?_
  intro W hW hf
  try simp only [Act.put, List.setIfInBounds_toArray, List.set_cons_succ, List.set_cons_zero]
  have h1 := hf (15, OwnRS w1.heap.size 24 3 m (evcells l) v1) (by simp)
  have h2 := hf (17, NewR w1.heap.size 24 #[.int .i64 et, .int .i64 ek, .int .i64 eo] 1 v2) (by simp)
  obtain ⟨g2, rfl, hg2, hx2⟩ := h2
  have H1 := Lib.hid h1; have Hx2 := Lib.hid hx2; have HbW := Lib.hid hW
  clear h1 hf hx2 hW
  go_wp2_with (at_builtin; refine wpList_append_srcS ES3 rfl (.tmp 15) (.tmp 17) rfl w1.heap.size v1 m (evcells l) rfl H1.out (g2 + 1) (some ⟨g2, 0, none⟩) [.int .i64 et, .int .i64 ek, .int .i64 eo] 1 1 rfl rfl (fun j u hu => ⟨g2, 0, rfl, by omega, by rw [cell_blk Hx2.out]; simpa using hu⟩) (fun h => by cases h) (by intro u hu; simp at hu; rcases hu with rfl | rfl | rfl <;> rfl) (by omega) (by omega) w1 (Nat.le_refl _) HbW.out ?_; intro v3 w3 h2 h3 h4 h5; clear h4 h5; have H3 := Lib.hid h2; have Hb3 := Lib.hid h3; clear h2 h3; obtain ⟨A3, c3, rfl, hr3, hn3, hc3⟩ := own_rdS H3.out; have HC3 := Lib.hid hc3; have HA3 := Lib.hid (Evs.of_rd (l := l ++ [⟨et, ek, eo⟩]) (by rw [evcells_app]; exact hr3)); clear hr3 hn3 hc3)
  have HBw3 : Hid (Below w.heap.size w w3) := Lib.hid (HB1.out.trans (Hb3.out.mono HB1.out.size))
  have HL' : Hid (m + 1 = (l ++ [(⟨et, ek, eo⟩ : Ev)]).length) := Lib.hid (by rw [HM.out]; simp)
  have HRA := refraces_any (l ++ [(⟨et, ek, eo⟩ : Ev)]) (m + 1) HL'.out (by omega) n A3 c3 w3.heap.size w3 HA3.out (Nat.le_refl _)
  rw [← Her.out] at HRA
  have HRA := Lib.hid HRA
  by_cases hw : er = 0
  · have HPS : Hid (pk (racesL (l ++ [(⟨et, ek, eo⟩ : Ev)]) n) (racesL (l ++ [(⟨et, ek, eo⟩ : Ev)]) n).length m = pl) := Lib.hid (by
      rw [pk_full]
      unfold racesL
      rw [if_pos (by rw [← Her.out]; exact hw), ← HL'.out, pend_of_races, Hpl.out]
      unfold pendL
      rw [if_pos (by rw [← Her.out]; exact hw), ← HM.out])
    have hq : (racesL (l ++ [(⟨et, ek, eo⟩ : Ev)]) n).length ≤ 4000000 := by
      unfold racesL
      split
      · have e1 : (sifted (raceB (l ++ [(⟨et, ek, eo⟩ : Ev)])) (upTo (l ++ [(⟨et, ek, eo⟩ : Ev)]) (l ++ [(⟨et, ek, eo⟩ : Ev)]).length)).length ≤ (upTo (l ++ [(⟨et, ek, eo⟩ : Ev)]) (l ++ [(⟨et, ek, eo⟩ : Ev)]).length).length := List.length_filter_le _ _
        have e2 := upTo_length (l ++ [(⟨et, ek, eo⟩ : Ev)]) (l ++ [(⟨et, ek, eo⟩ : Ev)]).length
        have e3 : (l ++ [(⟨et, ek, eo⟩ : Ev)]).length * (l ++ [(⟨et, ek, eo⟩ : Ev)]).length ≤ 2000 * 2000 := Nat.mul_le_mul (by rw [← HL'.out]; omega) (by rw [← HL'.out]; omega)
        omega
      · simp
    generalize racesL (l ++ [(⟨et, ek, eo⟩ : Ev)]) n = ps at *
    subst hw
    clear Her Hpl
    with_reducible refine HRA.out.mono ?_
    rintro r w4 ⟨hb4, v, rfl, ho4⟩
    obtain ⟨P, cp, rfl, hrp, _, _⟩ := own_rdS ho4
    have HP4 := Lib.hid hrp
    have HB4 := Lib.hid (HBw3.out.trans (hb4.mono HBw3.out.size))
    clear hb4 ho4 hrp HRA
    obtain ⟨q, hqq⟩ : ∃ q, q = ps.length := ⟨_, rfl⟩
    rw [← hqq] at hq HPS ⊢
    have HQ := Lib.hid hqq
    clear hqq
    go_wp2_with fail
    go_loopw [11, 12] (fun ov iv wr => ∃ k : Nat, k ≤ q ∧ iv = .int .i64 k ∧ wr.ownsRow w4.heap.size 3 1 ov (pk ps k m).length (numv (pk ps k m)) ∧ Below w4.heap.size w4 wr) (fun _ iv _ => q - (intOf iv).toNat)
    case atStart => exact ⟨0, by omega, rfl, World.ownsRow_nil _ _ _ _, Below.refl _ _⟩
    case round =>
      obtain ⟨k, hk, rfl, ho, hb⟩ := hrel
      have HO := Lib.hid ho; have HB := Lib.hid hb
      clear ho hb
      by_cases hlt : k < q
      · obtain ⟨g1, g2'⟩ := prcells_get ps k (by rw [← HQ.out]; exact hlt)
        obtain ⟨b, o, rfl, h0, p1⟩ := HP4.out _ _ g1
        obtain ⟨_, _, e1, _, p2⟩ := HP4.out _ _ g2'
        injection e1 with e1; injection e1 with e1 e2; subst e1 e2
        have p1 := (HB.out.cell (p := ⟨b, o + k * 2, none⟩) h0).trans p1
        have p2 := (HB.out.cell (p := ⟨b, o + k * 2 + 1, none⟩) h0).trans p2
        have HS := Lib.hid (pk_succ ps k m)
        have hzl := pk_le ps k m
        clear g1 g2'
        generalize (pr ps k).1 = z1 at *
        generalize (pr ps k).2 = z2 at *
        by_cases hz : z2 = m
        · have u1 : ((z2 : Int) == (m : Int)) = true := by rw [beq_iff_eq]; omega
          have u2 : decide ((z2 : Int) = (m : Int)) = true := decide_eq_true (by omega)
          have HS1 := Lib.hid (HS.out.trans (if_pos hz))
          clear HS
          generalize hzz : (pk ps k m).length = z at *
          go_wp2_with (at_builtin; refine wpList_append_one0 EI rfl (.tmp 42) (.tmp 48) rfl w4.heap.size (.int .i64 (z1 : Int)) rfl _ z (numv (pk ps k m)) rfl HO.out rfl (by omega) (by omega) w4 (Nat.le_refl _) HB.out ?_; intro v5 w5 h2 h3 h4 h5; clear h4 h5; have O6 := Lib.hid h2; have HB6 := Lib.hid h3; clear h2 h3)
          go_roundw
          case rel => exact ⟨k + 1, by omega, by go_num, by rw [HS1.out, List.length_append, hzz]; simpa [numv] using O6.out, HB6.out⟩
          case measure => simp [intOf]; omega
        · have u1 : ((z2 : Int) == (m : Int)) = false := by rw [beq_eq_false_iff_ne]; omega
          have u2 : decide ((z2 : Int) = (m : Int)) = false := decide_eq_false (by omega)
          have HS1 := Lib.hid (HS.out.trans (if_neg hz))
          clear HS
          go_wp2_with fail
          go_roundw
          case rel => exact ⟨k + 1, by omega, by go_num, by rw [HS1.out]; exact HO.out, HB.out⟩
          case measure => simp [intOf]; omega
      · obtain rfl : k = q := by omega
        go_wp2_with fail
        go_ret2
        exact ⟨HB4.out.trans (HB.out.mono HB4.out.size), _, rfl, by rw [← HPS.out]; exact owns_less HO.out HB4.out.size⟩
  · have HE : Hid (pl = []) := Lib.hid (by rw [Hpl.out]; unfold pendL; rw [if_neg (by rw [← Her.out]; exact hw)])
    have hx : ((er : Nat) : Int) = 0 → False := by omega
    have hx2 : decide (((er : Nat) : Int) = 0) = false := by rw [decide_eq_false_iff_not]; exact hx
    have hx3 : (((er : Nat) : Int) == 0) = false := by rw [beq_eq_false_iff_ne]; exact hx
    clear hw Her Hpl
    generalize racesL (l ++ [(⟨et, ek, eo⟩ : Ev)]) n = ps at *
    with_reducible refine HRA.out.mono ?_
    rintro r w4 ⟨hb4, v, rfl, ho4⟩
    obtain ⟨P, cp, rfl, _, _, _⟩ := own_rdS ho4
    have HB4 := Lib.hid (HBw3.out.trans (hb4.mono HBw3.out.size))
    clear hb4 ho4 HRA
    go_wp2_with fail
    go_ret2
    exact ⟨HB4.out, _, rfl, by rw [HE.out]; exact World.ownsRow_nil _ _ _ _⟩
end Go.Proofs.Ytkcpoebepiipoaa
