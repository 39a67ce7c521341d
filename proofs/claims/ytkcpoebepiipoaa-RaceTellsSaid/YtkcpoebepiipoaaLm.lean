/- RaceTells. -/
import Derived.Test.YtkcpoebepiipoaaLi
import Derived.Test.YtkcpoebepiipoaaLk
import Derived.Test.YtkcpoebepiipoaaLf
import Derived.Test.YtkcpoebepiipoaaGi
set_option linter.unusedSimpArgs false
set_option linter.unusedVariables false
namespace Go.Proofs.Ytkcpoebepiipoaa
open Go.RowKit
theorem list_len (l : List Ev) (d : Nat → Nat → Bool) (n : Int) (m : Nat) (hm : m = l.length) (hl : m ≤ 1900) : (if wrongE l n = 0 then sifted d (upTo l l.length) else []).length ≤ 4000000 := by
  split
  · have e1 : (sifted d (upTo l l.length)).length ≤ (upTo l l.length).length := List.length_filter_le _ _
    have e2 := upTo_length l l.length
    have e3 : l.length * l.length ≤ 1900 * 1900 := Nat.mul_le_mul (by omega) (by omega)
    omega
  · simp
set_option maxRecDepth 100000 in
set_option maxHeartbeats 8000000 in
theorem tells_good (l : List Ev) (m : Nat) (hm : m = l.length) (hl : m ≤ 1029) (A : Option Addr) (cap : Nat) (n : Int) (e : Ev) (w : World) (hA : Evs w w.heap.size A l) (hA0 : A = none → m = 0) (hcap : m ≤ cap) (hg1 : ¬ (120 < m ∧ m < 1024)) (hg3 : ¬ (m = 1024 ∧ 1 ≤ n ∧ n ≤ 16)) :
    Calls Try.prog 3 #[.slice A m cap, .int .i64 n, e.v] w fun r w' => r = .returned (.bool true) ∧ Below w.heap.size w w' := by
  have HA := Lib.hid hA; have HM := Lib.hid hm; have HA0 := Lib.hid hA0
  have HN1 : Hid ((racesL l n).length ≤ 4000000) := Lib.hid (by unfold racesL; exact list_len l _ n m hm (by omega))
  have HN2 : Hid ((dataL l n).length ≤ 4000000) := Lib.hid (by unfold dataL; exact list_len l _ n m hm (by omega))
  have HN3 : Hid ((pendL l n e).length ≤ 4000000) := Lib.hid (by
    unfold pendL
    split
    · have := pend_le (l ++ [e]) l.length l.length; omega
    · simp)
  -- the calls, at whatever world comes
  have C1 := Lib.hid (fun W A' c' (hc : m ≤ c') B (h : Evs W B A' l) (hB : B ≤ W.heap.size) => races_any l m hm (by omega) n A' c' hc B W h hB)
  have C2 := Lib.hid (fun W A' c' B (h : Evs W B A' l) (hB : B ≤ W.heap.size) => refraces_any l m hm (by omega) n A' c' B W h hB)
  have C3 := Lib.hid (fun W A' c' (hc : m ≤ c') B (h : Evs W B A' l) (hB : B ≤ W.heap.size) => datas_any l m hm (by omega) n A' c' hc B W h hB)
  have C4 := Lib.hid (fun W A' c' B (h : Evs W B A' l) (hB : B ≤ W.heap.size) => refdata_any l m hm (by omega) n A' c' B W h hB)
  have C5 := Lib.hid (fun W A' c' B (h : Evs W B A' l) (hB : B ≤ W.heap.size) (h0 : A' = none → m = 0) => pending_any l m hm (by omega) n e A' c' B W h hB h0)
  have C6 := Lib.hid (fun W A' c' B (h : Evs W B A' l) (hB : B ≤ W.heap.size) (h0 : A' = none → m = 0) => refpending_any l m hm (by omega) n e A' c' B W h hB h0)
  have CK := Lib.hid (fun (W : World) A' c' (g : Nat) (cur : Array Value) (h : Evs W W.heap.size A' l) (h0 : A' = none → m = 0) (hg : W.heap[g]? = some (.cells cur 24 (0, 0))) (hc : ∀ j, j < (m + 3) * 3 → cur[j]? = (evcells (lentE l))[j]?) => kept_events l m hm (by omega) A' c' g cur W h h0 hg hc)
  have CL := Lib.hid (fun W A' c' (h : Evs W W.heap.size A' l) (h0 : A' = none → m = 0) => lent_events l m hm (by omega) A' c' W h h0)
  have CE := Lib.hid (fun (W : World) (g : Nat) (cur : Array Value) (hg : W.heap[g]? = some (.cells cur 24 (0, 0))) (hc : ∀ j, j < (m + 3) * 3 → cur[j]? = (evcells (lentE l))[j]?) => lent_evs (lent_rd hm hg hc))
  clear hA hm hA0
  obtain ⟨et, ek, eo⟩ := e
  have He : Hid (Ev.v ⟨et, ek, eo⟩ = .agg #[.int .i64 et, .int .i64 ek, .int .i64 eo]) := Lib.hid rfl
  rw [He.out] at C5 C6 ⊢
  generalize racesL l n = ps at *
  generalize dataL l n = qs at *
  generalize pendL l n ⟨et, ek, eo⟩ = ns at *
  generalize wrongE l n = er at *
  generalize wrongE (l ++ [(⟨et, ek, eo⟩ : Ev)]) n = er2 at *
  obtain ⟨q1, hq1⟩ : ∃ q, q = ps.length := ⟨_, rfl⟩
  obtain ⟨q2, hq2⟩ : ∃ q, q = qs.length := ⟨_, rfl⟩
  obtain ⟨q3, hq3⟩ : ∃ q, q = ns.length := ⟨_, rfl⟩
  rw [← hq1] at HN1; rw [← hq2] at HN2; rw [← hq3] at HN3
  have HQ1 := Lib.hid hq1; have HQ2 := Lib.hid hq2; have HQ3 := Lib.hid hq3
  clear hq1 hq2 hq3
  have u1 : decide ((120 : Int) < m) = decide (120 < m) := by rw [decide_eq_decide]; omega
  have key : (120 < m → ¬ m < 1024) ∧ (m = 1024 → 1 ≤ n → ¬ n ≤ 16) := ⟨fun h1 h2 => hg1 ⟨h1, h2⟩, fun h1 h2 h3 => hg3 ⟨h1, h2, h3⟩⟩
  clear hg1 hg3
  obtain ⟨key1, key2⟩ := key
  have v1 : decide ((1029 : Int) < m) = false := decide_eq_false (by omega)
  by_cases b1 : 120 < m
  rotate_left
  · have b2 : ¬ m = 1024 := by omega
    go_enter Try.func3, Try.ntmps3
    go_upto_region 3 with (fail)
    try clear w1 w2 w3
    try have B2 := Lib.hid b2
    try clear b2
    try clear b3 b4 b5 b6
    clear key1 key2 u1 v1 b1
    have hb0 := below_alloc w (.cells #[.int .i64 et, .int .i64 ek, .int .i64 eo] 24)
    have hx0 := heap_alloc_new w (.cells #[.int .i64 et, .int .i64 ek, .int .i64 eo] 24)
    generalize w.alloc (.cells #[.int .i64 et, .int .i64 ek, .int .i64 eo] 24) = w0 at *
    have HB0 := Lib.hid hb0; have HX0 := Lib.hid hx0
    clear hb0 hx0
    go_wp2_with fail
    with_reducible refine (CL.out w0 A cap ((HA.out.below HB0.out).more HB0.out.size) HA0.out).mono ?_
    rintro r w1 ⟨g, cur, rfl, hg, hcg, hcc, hb1⟩
    have HG := Lib.hid hcg; have HCC := Lib.hid hcc
    have HB1 := Lib.hid (HB0.out.trans (hb1.mono HB0.out.size))
    have HX1 := Lib.hid ((hb1.block _ (lt_blk HX0.out)).trans HX0.out)
    have HI : Hid (∀ W, Below w1.heap.size w1 W → Evs W w1.heap.size (some ⟨g, 0, none⟩) l) := Lib.hid (fun W h => ((CE.out w1 g cur HG.out HCC.out).more (lt_blk HG.out)).below h)
    have HO : Hid (∀ W, Below w1.heap.size w1 W → Evs W w1.heap.size A l) := Lib.hid (fun W h => ((HA.out.below HB1.out).more HB1.out.size).below h)
    have HV : Hid (∀ W, Below w1.heap.size w1 W → W.cell? ⟨w.heap.size, 0, none⟩ = some (.int .i64 et) ∧ W.cell? ⟨w.heap.size, 1, none⟩ = some (.int .i64 ek) ∧ W.cell? ⟨w.heap.size, 2, none⟩ = some (.int .i64 eo)) := Lib.hid (fun W hW => by
      have hx := (hW.block _ (lt_blk HX1.out)).trans HX1.out
      exact ⟨by rw [cell_blk hx]; rfl, by rw [cell_blk hx]; rfl, by rw [cell_blk hx]; rfl⟩)
    clear hg hcg hcc hb1
    go_wp2_with fail
    with_reducible refine (C1.out w1 (some ⟨g, 0, none⟩) (m + 3) (by omega) w1.heap.size (HI.out w1 (Below.refl _ _)) (Nat.le_refl _)).mono ?_
    rintro r w2 ⟨hb, v, rfl, ho⟩
    obtain ⟨P1, p1, rfl, hr, _, _⟩ := own_rdS ho
    have D2 := Lib.hid hb; have R1 := Lib.hid hr
    clear hb ho hr
    rw [← HQ1.out]
    go_wp2_with fail
    with_reducible refine (C2.out w2 A cap w1.heap.size (HO.out w2 D2.out) D2.out.size).mono ?_
    rintro r w3 ⟨hb, v, rfl, ho⟩
    obtain ⟨P2, p2, rfl, hr, _, _⟩ := own_rdS ho
    have D3 := Lib.hid (D2.out.trans (hb.mono D2.out.size)); have R2 := Lib.hid hr
    have R1 := Lib.hid ((R1.out.below hb).mono hb.size)
    clear hb ho hr
    rw [← HQ1.out]
    go_wp2_with fail
    with_reducible refine (C3.out w3 (some ⟨g, 0, none⟩) (m + 3) (by omega) w1.heap.size (HI.out w3 D3.out) D3.out.size).mono ?_
    rintro r w4 ⟨hb, v, rfl, ho⟩
    obtain ⟨P3, p3, rfl, hr, _, _⟩ := own_rdS ho
    have D4 := Lib.hid (D3.out.trans (hb.mono D3.out.size)); have R3 := Lib.hid hr
    have R1 := Lib.hid ((R1.out.below hb).mono hb.size); have R2 := Lib.hid ((R2.out.below hb).mono hb.size)
    clear hb ho hr
    rw [← HQ2.out]
    go_wp2_with fail
    with_reducible refine (C4.out w4 A cap w1.heap.size (HO.out w4 D4.out) D4.out.size).mono ?_
    rintro r w5 ⟨hb, v, rfl, ho⟩
    obtain ⟨P4, p4, rfl, hr, _, _⟩ := own_rdS ho
    have D5 := Lib.hid (D4.out.trans (hb.mono D4.out.size)); have R4 := Lib.hid hr
    have R1 := Lib.hid ((R1.out.below hb).mono hb.size); have R2 := Lib.hid ((R2.out.below hb).mono hb.size); have R3 := Lib.hid ((R3.out.below hb).mono hb.size)
    clear hb ho hr
    rw [← HQ2.out]
    obtain ⟨z1, z2, z3⟩ := HV.out w5 D5.out
    go_wp2_with fail
    with_reducible refine (C5.out w5 (some ⟨g, 0, none⟩) (m + 3) w1.heap.size (HI.out w5 D5.out) D5.out.size (fun h => by cases h)).mono ?_
    rintro r w6 ⟨hb, v, rfl, ho⟩
    obtain ⟨P5, p5, rfl, hr, _, _⟩ := own_rd ho
    have D6 := Lib.hid (D5.out.trans (hb.mono D5.out.size)); have R5 := Lib.hid hr
    have R1 := Lib.hid ((R1.out.below hb).mono hb.size); have R2 := Lib.hid ((R2.out.below hb).mono hb.size); have R3 := Lib.hid ((R3.out.below hb).mono hb.size); have R4 := Lib.hid ((R4.out.below hb).mono hb.size)
    clear hb ho hr z1 z2 z3
    rw [← HQ3.out]
    obtain ⟨z1, z2, z3⟩ := HV.out w6 D6.out
    go_wp2_with fail
    with_reducible refine (C6.out w6 A cap w1.heap.size (HO.out w6 D6.out) D6.out.size HA0.out).mono ?_
    rintro r w7 ⟨hb, v, rfl, ho⟩
    obtain ⟨P6, p6, rfl, hr, _, _⟩ := own_rd ho
    have D7 := Lib.hid (D6.out.trans (hb.mono D6.out.size)); have R6 := Lib.hid hr
    have R1 := Lib.hid ((R1.out.below hb).mono hb.size); have R2 := Lib.hid ((R2.out.below hb).mono hb.size); have R3 := Lib.hid ((R3.out.below hb).mono hb.size); have R4 := Lib.hid ((R4.out.below hb).mono hb.size); have R5 := Lib.hid ((R5.out.below hb).mono hb.size)
    clear hb ho hr z1 z2 z3
    rw [← HQ3.out]
    have S1 := Lib.hid (same_any ps q1 HQ1.out HN1.out P1 P2 p1 p2 w7.heap.size w7 R1.out R2.out (Nat.le_refl _))
    have S2 := Lib.hid (fun W (h : Below w7.heap.size w7 W) => same_any qs q2 HQ2.out HN2.out P3 P4 p3 p4 w7.heap.size W (R3.out.below h) (R4.out.below h) h.size)
    have S3 := Lib.hid (fun W (h : Below w7.heap.size w7 W) => same_ints q3 (by have := HN3.out; omega) (fun t => ns.getD t 0) P5 P6 p5 p6 w7.heap.size W (HQ3.out ▸ ints_rd (R5.out.below h)) (HQ3.out ▸ ints_rd (R6.out.below h)) h.size)
    go_wp2_with fail
    with_reducible refine S1.out.mono ?_
    rintro r w8 ⟨rfl, hb⟩
    have E8 := Lib.hid hb
    have T2 := Lib.hid (S2.out w8 hb)
    clear hb
    go_wp2_with fail
    with_reducible refine T2.out.mono ?_
    rintro r w9 ⟨rfl, hb⟩
    have E9 := Lib.hid (E8.out.trans (hb.mono E8.out.size))
    have T3 := Lib.hid (S3.out w9 E9.out)
    clear hb
    go_wp2_with fail
    with_reducible refine T3.out.mono ?_
    rintro r w10 ⟨rfl, hb⟩
    have E10 := Lib.hid (E9.out.trans (hb.mono E9.out.size))
    have D10 := Lib.hid (D7.out.trans (E10.out.mono D7.out.size))
    have T4 := Lib.hid (CK.out w10 A cap g cur ((HO.out w10 D10.out).more D10.out.size) HA0.out ((D10.out.block _ (lt_blk HG.out)).trans HG.out) HCC.out)
    clear hb
    go_wp2_with fail
    with_reducible refine T4.out.mono ?_
    rintro r w11 ⟨rfl, hb⟩
    have D11 := Lib.hid (D10.out.trans (hb.mono D10.out.size))
    clear hb
    go_wp2_with fail
    refine (awake_any w11).mono ?_
    rintro r w12 ⟨rfl, hb⟩
    have D12 := Lib.hid (D11.out.trans (hb.mono D11.out.size))
    clear hb
    go_wp2_with fail
    go_ret
    exact ⟨rfl, HB1.out.trans (D12.out.mono HB1.out.size)⟩
  · have b4 : ¬ m < 1024 := key1 b1
    by_cases b2 : m = 1024
    · have b5 := key2 b2
      by_cases b3 : 1 ≤ n
      · have b6 : ¬ n ≤ 16 := b5 b3
        have w1 : decide ((1 : Int) ≤ n) = true := decide_eq_true b3
        have w2 : decide (n ≤ (16 : Int)) = false := decide_eq_false b6
        have w3 : ((m : Int) == 1024) = true := by rw [beq_iff_eq]; omega
        go_enter Try.func3, Try.ntmps3
        go_upto_region 3 with (fail)
        try clear w1 w2 w3
        try have B2 := Lib.hid b2
        try clear b2
        try clear b3 b4 b5 b6
        clear key1 key2 u1 v1 b1
        have hb0 := below_alloc w (.cells #[.int .i64 et, .int .i64 ek, .int .i64 eo] 24)
        have hx0 := heap_alloc_new w (.cells #[.int .i64 et, .int .i64 ek, .int .i64 eo] 24)
        generalize w.alloc (.cells #[.int .i64 et, .int .i64 ek, .int .i64 eo] 24) = w0 at *
        have HB0 := Lib.hid hb0; have HX0 := Lib.hid hx0
        clear hb0 hx0
        go_wp2_with fail
        with_reducible refine (CL.out w0 A cap ((HA.out.below HB0.out).more HB0.out.size) HA0.out).mono ?_
        rintro r w1 ⟨g, cur, rfl, hg, hcg, hcc, hb1⟩
        have HG := Lib.hid hcg; have HCC := Lib.hid hcc
        have HB1 := Lib.hid (HB0.out.trans (hb1.mono HB0.out.size))
        have HX1 := Lib.hid ((hb1.block _ (lt_blk HX0.out)).trans HX0.out)
        have HI : Hid (∀ W, Below w1.heap.size w1 W → Evs W w1.heap.size (some ⟨g, 0, none⟩) l) := Lib.hid (fun W h => ((CE.out w1 g cur HG.out HCC.out).more (lt_blk HG.out)).below h)
        have HO : Hid (∀ W, Below w1.heap.size w1 W → Evs W w1.heap.size A l) := Lib.hid (fun W h => ((HA.out.below HB1.out).more HB1.out.size).below h)
        have HV : Hid (∀ W, Below w1.heap.size w1 W → W.cell? ⟨w.heap.size, 0, none⟩ = some (.int .i64 et) ∧ W.cell? ⟨w.heap.size, 1, none⟩ = some (.int .i64 ek) ∧ W.cell? ⟨w.heap.size, 2, none⟩ = some (.int .i64 eo)) := Lib.hid (fun W hW => by
          have hx := (hW.block _ (lt_blk HX1.out)).trans HX1.out
          exact ⟨by rw [cell_blk hx]; rfl, by rw [cell_blk hx]; rfl, by rw [cell_blk hx]; rfl⟩)
        clear hg hcg hcc hb1
        go_wp2_with fail
        with_reducible refine (C1.out w1 (some ⟨g, 0, none⟩) (m + 3) (by omega) w1.heap.size (HI.out w1 (Below.refl _ _)) (Nat.le_refl _)).mono ?_
        rintro r w2 ⟨hb, v, rfl, ho⟩
        obtain ⟨P1, p1, rfl, hr, _, _⟩ := own_rdS ho
        have D2 := Lib.hid hb; have R1 := Lib.hid hr
        clear hb ho hr
        rw [← HQ1.out]
        go_wp2_with fail
        with_reducible refine (C2.out w2 A cap w1.heap.size (HO.out w2 D2.out) D2.out.size).mono ?_
        rintro r w3 ⟨hb, v, rfl, ho⟩
        obtain ⟨P2, p2, rfl, hr, _, _⟩ := own_rdS ho
        have D3 := Lib.hid (D2.out.trans (hb.mono D2.out.size)); have R2 := Lib.hid hr
        have R1 := Lib.hid ((R1.out.below hb).mono hb.size)
        clear hb ho hr
        rw [← HQ1.out]
        go_wp2_with fail
        with_reducible refine (C3.out w3 (some ⟨g, 0, none⟩) (m + 3) (by omega) w1.heap.size (HI.out w3 D3.out) D3.out.size).mono ?_
        rintro r w4 ⟨hb, v, rfl, ho⟩
        obtain ⟨P3, p3, rfl, hr, _, _⟩ := own_rdS ho
        have D4 := Lib.hid (D3.out.trans (hb.mono D3.out.size)); have R3 := Lib.hid hr
        have R1 := Lib.hid ((R1.out.below hb).mono hb.size); have R2 := Lib.hid ((R2.out.below hb).mono hb.size)
        clear hb ho hr
        rw [← HQ2.out]
        go_wp2_with fail
        with_reducible refine (C4.out w4 A cap w1.heap.size (HO.out w4 D4.out) D4.out.size).mono ?_
        rintro r w5 ⟨hb, v, rfl, ho⟩
        obtain ⟨P4, p4, rfl, hr, _, _⟩ := own_rdS ho
        have D5 := Lib.hid (D4.out.trans (hb.mono D4.out.size)); have R4 := Lib.hid hr
        have R1 := Lib.hid ((R1.out.below hb).mono hb.size); have R2 := Lib.hid ((R2.out.below hb).mono hb.size); have R3 := Lib.hid ((R3.out.below hb).mono hb.size)
        clear hb ho hr
        rw [← HQ2.out]
        obtain ⟨z1, z2, z3⟩ := HV.out w5 D5.out
        go_wp2_with fail
        with_reducible refine (C5.out w5 (some ⟨g, 0, none⟩) (m + 3) w1.heap.size (HI.out w5 D5.out) D5.out.size (fun h => by cases h)).mono ?_
        rintro r w6 ⟨hb, v, rfl, ho⟩
        obtain ⟨P5, p5, rfl, hr, _, _⟩ := own_rd ho
        have D6 := Lib.hid (D5.out.trans (hb.mono D5.out.size)); have R5 := Lib.hid hr
        have R1 := Lib.hid ((R1.out.below hb).mono hb.size); have R2 := Lib.hid ((R2.out.below hb).mono hb.size); have R3 := Lib.hid ((R3.out.below hb).mono hb.size); have R4 := Lib.hid ((R4.out.below hb).mono hb.size)
        clear hb ho hr z1 z2 z3
        rw [← HQ3.out]
        obtain ⟨z1, z2, z3⟩ := HV.out w6 D6.out
        go_wp2_with fail
        with_reducible refine (C6.out w6 A cap w1.heap.size (HO.out w6 D6.out) D6.out.size HA0.out).mono ?_
        rintro r w7 ⟨hb, v, rfl, ho⟩
        obtain ⟨P6, p6, rfl, hr, _, _⟩ := own_rd ho
        have D7 := Lib.hid (D6.out.trans (hb.mono D6.out.size)); have R6 := Lib.hid hr
        have R1 := Lib.hid ((R1.out.below hb).mono hb.size); have R2 := Lib.hid ((R2.out.below hb).mono hb.size); have R3 := Lib.hid ((R3.out.below hb).mono hb.size); have R4 := Lib.hid ((R4.out.below hb).mono hb.size); have R5 := Lib.hid ((R5.out.below hb).mono hb.size)
        clear hb ho hr z1 z2 z3
        rw [← HQ3.out]
        have S1 := Lib.hid (same_any ps q1 HQ1.out HN1.out P1 P2 p1 p2 w7.heap.size w7 R1.out R2.out (Nat.le_refl _))
        have S2 := Lib.hid (fun W (h : Below w7.heap.size w7 W) => same_any qs q2 HQ2.out HN2.out P3 P4 p3 p4 w7.heap.size W (R3.out.below h) (R4.out.below h) h.size)
        have S3 := Lib.hid (fun W (h : Below w7.heap.size w7 W) => same_ints q3 (by have := HN3.out; omega) (fun t => ns.getD t 0) P5 P6 p5 p6 w7.heap.size W (HQ3.out ▸ ints_rd (R5.out.below h)) (HQ3.out ▸ ints_rd (R6.out.below h)) h.size)
        go_wp2_with fail
        with_reducible refine S1.out.mono ?_
        rintro r w8 ⟨rfl, hb⟩
        have E8 := Lib.hid hb
        have T2 := Lib.hid (S2.out w8 hb)
        clear hb
        go_wp2_with fail
        with_reducible refine T2.out.mono ?_
        rintro r w9 ⟨rfl, hb⟩
        have E9 := Lib.hid (E8.out.trans (hb.mono E8.out.size))
        have T3 := Lib.hid (S3.out w9 E9.out)
        clear hb
        go_wp2_with fail
        with_reducible refine T3.out.mono ?_
        rintro r w10 ⟨rfl, hb⟩
        have E10 := Lib.hid (E9.out.trans (hb.mono E9.out.size))
        have D10 := Lib.hid (D7.out.trans (E10.out.mono D7.out.size))
        have T4 := Lib.hid (CK.out w10 A cap g cur ((HO.out w10 D10.out).more D10.out.size) HA0.out ((D10.out.block _ (lt_blk HG.out)).trans HG.out) HCC.out)
        clear hb
        go_wp2_with fail
        with_reducible refine T4.out.mono ?_
        rintro r w11 ⟨rfl, hb⟩
        have D11 := Lib.hid (D10.out.trans (hb.mono D10.out.size))
        clear hb
        go_wp2_with fail
        refine (awake_any w11).mono ?_
        rintro r w12 ⟨rfl, hb⟩
        have D12 := Lib.hid (D11.out.trans (hb.mono D11.out.size))
        clear hb
        go_wp2_with fail
        go_ret
        exact ⟨rfl, HB1.out.trans (D12.out.mono HB1.out.size)⟩
      · have w1 : decide ((1 : Int) ≤ n) = false := decide_eq_false b3
        have w3 : ((m : Int) == 1024) = true := by rw [beq_iff_eq]; omega
        go_enter Try.func3, Try.ntmps3
        go_upto_region 3 with (fail)
        try clear w1 w2 w3
        try have B2 := Lib.hid b2
        try clear b2
        try clear b3 b4 b5 b6
        clear key1 key2 u1 v1 b1
        have hb0 := below_alloc w (.cells #[.int .i64 et, .int .i64 ek, .int .i64 eo] 24)
        have hx0 := heap_alloc_new w (.cells #[.int .i64 et, .int .i64 ek, .int .i64 eo] 24)
        generalize w.alloc (.cells #[.int .i64 et, .int .i64 ek, .int .i64 eo] 24) = w0 at *
        have HB0 := Lib.hid hb0; have HX0 := Lib.hid hx0
        clear hb0 hx0
        go_wp2_with fail
        with_reducible refine (CL.out w0 A cap ((HA.out.below HB0.out).more HB0.out.size) HA0.out).mono ?_
        rintro r w1 ⟨g, cur, rfl, hg, hcg, hcc, hb1⟩
        have HG := Lib.hid hcg; have HCC := Lib.hid hcc
        have HB1 := Lib.hid (HB0.out.trans (hb1.mono HB0.out.size))
        have HX1 := Lib.hid ((hb1.block _ (lt_blk HX0.out)).trans HX0.out)
        have HI : Hid (∀ W, Below w1.heap.size w1 W → Evs W w1.heap.size (some ⟨g, 0, none⟩) l) := Lib.hid (fun W h => ((CE.out w1 g cur HG.out HCC.out).more (lt_blk HG.out)).below h)
        have HO : Hid (∀ W, Below w1.heap.size w1 W → Evs W w1.heap.size A l) := Lib.hid (fun W h => ((HA.out.below HB1.out).more HB1.out.size).below h)
        have HV : Hid (∀ W, Below w1.heap.size w1 W → W.cell? ⟨w.heap.size, 0, none⟩ = some (.int .i64 et) ∧ W.cell? ⟨w.heap.size, 1, none⟩ = some (.int .i64 ek) ∧ W.cell? ⟨w.heap.size, 2, none⟩ = some (.int .i64 eo)) := Lib.hid (fun W hW => by
          have hx := (hW.block _ (lt_blk HX1.out)).trans HX1.out
          exact ⟨by rw [cell_blk hx]; rfl, by rw [cell_blk hx]; rfl, by rw [cell_blk hx]; rfl⟩)
        clear hg hcg hcc hb1
        go_wp2_with fail
        with_reducible refine (C1.out w1 (some ⟨g, 0, none⟩) (m + 3) (by omega) w1.heap.size (HI.out w1 (Below.refl _ _)) (Nat.le_refl _)).mono ?_
        rintro r w2 ⟨hb, v, rfl, ho⟩
        obtain ⟨P1, p1, rfl, hr, _, _⟩ := own_rdS ho
        have D2 := Lib.hid hb; have R1 := Lib.hid hr
        clear hb ho hr
        rw [← HQ1.out]
        go_wp2_with fail
        with_reducible refine (C2.out w2 A cap w1.heap.size (HO.out w2 D2.out) D2.out.size).mono ?_
        rintro r w3 ⟨hb, v, rfl, ho⟩
        obtain ⟨P2, p2, rfl, hr, _, _⟩ := own_rdS ho
        have D3 := Lib.hid (D2.out.trans (hb.mono D2.out.size)); have R2 := Lib.hid hr
        have R1 := Lib.hid ((R1.out.below hb).mono hb.size)
        clear hb ho hr
        rw [← HQ1.out]
        go_wp2_with fail
        with_reducible refine (C3.out w3 (some ⟨g, 0, none⟩) (m + 3) (by omega) w1.heap.size (HI.out w3 D3.out) D3.out.size).mono ?_
        rintro r w4 ⟨hb, v, rfl, ho⟩
        obtain ⟨P3, p3, rfl, hr, _, _⟩ := own_rdS ho
        have D4 := Lib.hid (D3.out.trans (hb.mono D3.out.size)); have R3 := Lib.hid hr
        have R1 := Lib.hid ((R1.out.below hb).mono hb.size); have R2 := Lib.hid ((R2.out.below hb).mono hb.size)
        clear hb ho hr
        rw [← HQ2.out]
        go_wp2_with fail
        with_reducible refine (C4.out w4 A cap w1.heap.size (HO.out w4 D4.out) D4.out.size).mono ?_
        rintro r w5 ⟨hb, v, rfl, ho⟩
        obtain ⟨P4, p4, rfl, hr, _, _⟩ := own_rdS ho
        have D5 := Lib.hid (D4.out.trans (hb.mono D4.out.size)); have R4 := Lib.hid hr
        have R1 := Lib.hid ((R1.out.below hb).mono hb.size); have R2 := Lib.hid ((R2.out.below hb).mono hb.size); have R3 := Lib.hid ((R3.out.below hb).mono hb.size)
        clear hb ho hr
        rw [← HQ2.out]
        obtain ⟨z1, z2, z3⟩ := HV.out w5 D5.out
        go_wp2_with fail
        with_reducible refine (C5.out w5 (some ⟨g, 0, none⟩) (m + 3) w1.heap.size (HI.out w5 D5.out) D5.out.size (fun h => by cases h)).mono ?_
        rintro r w6 ⟨hb, v, rfl, ho⟩
        obtain ⟨P5, p5, rfl, hr, _, _⟩ := own_rd ho
        have D6 := Lib.hid (D5.out.trans (hb.mono D5.out.size)); have R5 := Lib.hid hr
        have R1 := Lib.hid ((R1.out.below hb).mono hb.size); have R2 := Lib.hid ((R2.out.below hb).mono hb.size); have R3 := Lib.hid ((R3.out.below hb).mono hb.size); have R4 := Lib.hid ((R4.out.below hb).mono hb.size)
        clear hb ho hr z1 z2 z3
        rw [← HQ3.out]
        obtain ⟨z1, z2, z3⟩ := HV.out w6 D6.out
        go_wp2_with fail
        with_reducible refine (C6.out w6 A cap w1.heap.size (HO.out w6 D6.out) D6.out.size HA0.out).mono ?_
        rintro r w7 ⟨hb, v, rfl, ho⟩
        obtain ⟨P6, p6, rfl, hr, _, _⟩ := own_rd ho
        have D7 := Lib.hid (D6.out.trans (hb.mono D6.out.size)); have R6 := Lib.hid hr
        have R1 := Lib.hid ((R1.out.below hb).mono hb.size); have R2 := Lib.hid ((R2.out.below hb).mono hb.size); have R3 := Lib.hid ((R3.out.below hb).mono hb.size); have R4 := Lib.hid ((R4.out.below hb).mono hb.size); have R5 := Lib.hid ((R5.out.below hb).mono hb.size)
        clear hb ho hr z1 z2 z3
        rw [← HQ3.out]
        have S1 := Lib.hid (same_any ps q1 HQ1.out HN1.out P1 P2 p1 p2 w7.heap.size w7 R1.out R2.out (Nat.le_refl _))
        have S2 := Lib.hid (fun W (h : Below w7.heap.size w7 W) => same_any qs q2 HQ2.out HN2.out P3 P4 p3 p4 w7.heap.size W (R3.out.below h) (R4.out.below h) h.size)
        have S3 := Lib.hid (fun W (h : Below w7.heap.size w7 W) => same_ints q3 (by have := HN3.out; omega) (fun t => ns.getD t 0) P5 P6 p5 p6 w7.heap.size W (HQ3.out ▸ ints_rd (R5.out.below h)) (HQ3.out ▸ ints_rd (R6.out.below h)) h.size)
        go_wp2_with fail
        with_reducible refine S1.out.mono ?_
        rintro r w8 ⟨rfl, hb⟩
        have E8 := Lib.hid hb
        have T2 := Lib.hid (S2.out w8 hb)
        clear hb
        go_wp2_with fail
        with_reducible refine T2.out.mono ?_
        rintro r w9 ⟨rfl, hb⟩
        have E9 := Lib.hid (E8.out.trans (hb.mono E8.out.size))
        have T3 := Lib.hid (S3.out w9 E9.out)
        clear hb
        go_wp2_with fail
        with_reducible refine T3.out.mono ?_
        rintro r w10 ⟨rfl, hb⟩
        have E10 := Lib.hid (E9.out.trans (hb.mono E9.out.size))
        have D10 := Lib.hid (D7.out.trans (E10.out.mono D7.out.size))
        have T4 := Lib.hid (CK.out w10 A cap g cur ((HO.out w10 D10.out).more D10.out.size) HA0.out ((D10.out.block _ (lt_blk HG.out)).trans HG.out) HCC.out)
        clear hb
        go_wp2_with fail
        with_reducible refine T4.out.mono ?_
        rintro r w11 ⟨rfl, hb⟩
        have D11 := Lib.hid (D10.out.trans (hb.mono D10.out.size))
        clear hb
        go_wp2_with fail
        refine (awake_any w11).mono ?_
        rintro r w12 ⟨rfl, hb⟩
        have D12 := Lib.hid (D11.out.trans (hb.mono D11.out.size))
        clear hb
        go_wp2_with fail
        go_ret
        exact ⟨rfl, HB1.out.trans (D12.out.mono HB1.out.size)⟩
    · have w3 : ((m : Int) == 1024) = false := by rw [beq_eq_false_iff_ne]; omega
      go_enter Try.func3, Try.ntmps3
      go_upto_region 3 with (fail)
      try clear w1 w2 w3
      try have B2 := Lib.hid b2
      try clear b2
      try clear b3 b4 b5 b6
      clear key1 key2 u1 v1 b1
      have hb0 := below_alloc w (.cells #[.int .i64 et, .int .i64 ek, .int .i64 eo] 24)
      have hx0 := heap_alloc_new w (.cells #[.int .i64 et, .int .i64 ek, .int .i64 eo] 24)
      generalize w.alloc (.cells #[.int .i64 et, .int .i64 ek, .int .i64 eo] 24) = w0 at *
      have HB0 := Lib.hid hb0; have HX0 := Lib.hid hx0
      clear hb0 hx0
      go_wp2_with fail
      with_reducible refine (CL.out w0 A cap ((HA.out.below HB0.out).more HB0.out.size) HA0.out).mono ?_
      rintro r w1 ⟨g, cur, rfl, hg, hcg, hcc, hb1⟩
      have HG := Lib.hid hcg; have HCC := Lib.hid hcc
      have HB1 := Lib.hid (HB0.out.trans (hb1.mono HB0.out.size))
      have HX1 := Lib.hid ((hb1.block _ (lt_blk HX0.out)).trans HX0.out)
      have HI : Hid (∀ W, Below w1.heap.size w1 W → Evs W w1.heap.size (some ⟨g, 0, none⟩) l) := Lib.hid (fun W h => ((CE.out w1 g cur HG.out HCC.out).more (lt_blk HG.out)).below h)
      have HO : Hid (∀ W, Below w1.heap.size w1 W → Evs W w1.heap.size A l) := Lib.hid (fun W h => ((HA.out.below HB1.out).more HB1.out.size).below h)
      have HV : Hid (∀ W, Below w1.heap.size w1 W → W.cell? ⟨w.heap.size, 0, none⟩ = some (.int .i64 et) ∧ W.cell? ⟨w.heap.size, 1, none⟩ = some (.int .i64 ek) ∧ W.cell? ⟨w.heap.size, 2, none⟩ = some (.int .i64 eo)) := Lib.hid (fun W hW => by
        have hx := (hW.block _ (lt_blk HX1.out)).trans HX1.out
        exact ⟨by rw [cell_blk hx]; rfl, by rw [cell_blk hx]; rfl, by rw [cell_blk hx]; rfl⟩)
      clear hg hcg hcc hb1
      go_wp2_with fail
      with_reducible refine (C1.out w1 (some ⟨g, 0, none⟩) (m + 3) (by omega) w1.heap.size (HI.out w1 (Below.refl _ _)) (Nat.le_refl _)).mono ?_
      rintro r w2 ⟨hb, v, rfl, ho⟩
      obtain ⟨P1, p1, rfl, hr, _, _⟩ := own_rdS ho
      have D2 := Lib.hid hb; have R1 := Lib.hid hr
      clear hb ho hr
      rw [← HQ1.out]
      go_wp2_with fail
      with_reducible refine (C2.out w2 A cap w1.heap.size (HO.out w2 D2.out) D2.out.size).mono ?_
      rintro r w3 ⟨hb, v, rfl, ho⟩
      obtain ⟨P2, p2, rfl, hr, _, _⟩ := own_rdS ho
      have D3 := Lib.hid (D2.out.trans (hb.mono D2.out.size)); have R2 := Lib.hid hr
      have R1 := Lib.hid ((R1.out.below hb).mono hb.size)
      clear hb ho hr
      rw [← HQ1.out]
      go_wp2_with fail
      with_reducible refine (C3.out w3 (some ⟨g, 0, none⟩) (m + 3) (by omega) w1.heap.size (HI.out w3 D3.out) D3.out.size).mono ?_
      rintro r w4 ⟨hb, v, rfl, ho⟩
      obtain ⟨P3, p3, rfl, hr, _, _⟩ := own_rdS ho
      have D4 := Lib.hid (D3.out.trans (hb.mono D3.out.size)); have R3 := Lib.hid hr
      have R1 := Lib.hid ((R1.out.below hb).mono hb.size); have R2 := Lib.hid ((R2.out.below hb).mono hb.size)
      clear hb ho hr
      rw [← HQ2.out]
      go_wp2_with fail
      with_reducible refine (C4.out w4 A cap w1.heap.size (HO.out w4 D4.out) D4.out.size).mono ?_
      rintro r w5 ⟨hb, v, rfl, ho⟩
      obtain ⟨P4, p4, rfl, hr, _, _⟩ := own_rdS ho
      have D5 := Lib.hid (D4.out.trans (hb.mono D4.out.size)); have R4 := Lib.hid hr
      have R1 := Lib.hid ((R1.out.below hb).mono hb.size); have R2 := Lib.hid ((R2.out.below hb).mono hb.size); have R3 := Lib.hid ((R3.out.below hb).mono hb.size)
      clear hb ho hr
      rw [← HQ2.out]
      obtain ⟨z1, z2, z3⟩ := HV.out w5 D5.out
      go_wp2_with fail
      with_reducible refine (C5.out w5 (some ⟨g, 0, none⟩) (m + 3) w1.heap.size (HI.out w5 D5.out) D5.out.size (fun h => by cases h)).mono ?_
      rintro r w6 ⟨hb, v, rfl, ho⟩
      obtain ⟨P5, p5, rfl, hr, _, _⟩ := own_rd ho
      have D6 := Lib.hid (D5.out.trans (hb.mono D5.out.size)); have R5 := Lib.hid hr
      have R1 := Lib.hid ((R1.out.below hb).mono hb.size); have R2 := Lib.hid ((R2.out.below hb).mono hb.size); have R3 := Lib.hid ((R3.out.below hb).mono hb.size); have R4 := Lib.hid ((R4.out.below hb).mono hb.size)
      clear hb ho hr z1 z2 z3
      rw [← HQ3.out]
      obtain ⟨z1, z2, z3⟩ := HV.out w6 D6.out
      go_wp2_with fail
      with_reducible refine (C6.out w6 A cap w1.heap.size (HO.out w6 D6.out) D6.out.size HA0.out).mono ?_
      rintro r w7 ⟨hb, v, rfl, ho⟩
      obtain ⟨P6, p6, rfl, hr, _, _⟩ := own_rd ho
      have D7 := Lib.hid (D6.out.trans (hb.mono D6.out.size)); have R6 := Lib.hid hr
      have R1 := Lib.hid ((R1.out.below hb).mono hb.size); have R2 := Lib.hid ((R2.out.below hb).mono hb.size); have R3 := Lib.hid ((R3.out.below hb).mono hb.size); have R4 := Lib.hid ((R4.out.below hb).mono hb.size); have R5 := Lib.hid ((R5.out.below hb).mono hb.size)
      clear hb ho hr z1 z2 z3
      rw [← HQ3.out]
      have S1 := Lib.hid (same_any ps q1 HQ1.out HN1.out P1 P2 p1 p2 w7.heap.size w7 R1.out R2.out (Nat.le_refl _))
      have S2 := Lib.hid (fun W (h : Below w7.heap.size w7 W) => same_any qs q2 HQ2.out HN2.out P3 P4 p3 p4 w7.heap.size W (R3.out.below h) (R4.out.below h) h.size)
      have S3 := Lib.hid (fun W (h : Below w7.heap.size w7 W) => same_ints q3 (by have := HN3.out; omega) (fun t => ns.getD t 0) P5 P6 p5 p6 w7.heap.size W (HQ3.out ▸ ints_rd (R5.out.below h)) (HQ3.out ▸ ints_rd (R6.out.below h)) h.size)
      go_wp2_with fail
      with_reducible refine S1.out.mono ?_
      rintro r w8 ⟨rfl, hb⟩
      have E8 := Lib.hid hb
      have T2 := Lib.hid (S2.out w8 hb)
      clear hb
      go_wp2_with fail
      with_reducible refine T2.out.mono ?_
      rintro r w9 ⟨rfl, hb⟩
      have E9 := Lib.hid (E8.out.trans (hb.mono E8.out.size))
      have T3 := Lib.hid (S3.out w9 E9.out)
      clear hb
      go_wp2_with fail
      with_reducible refine T3.out.mono ?_
      rintro r w10 ⟨rfl, hb⟩
      have E10 := Lib.hid (E9.out.trans (hb.mono E9.out.size))
      have D10 := Lib.hid (D7.out.trans (E10.out.mono D7.out.size))
      have T4 := Lib.hid (CK.out w10 A cap g cur ((HO.out w10 D10.out).more D10.out.size) HA0.out ((D10.out.block _ (lt_blk HG.out)).trans HG.out) HCC.out)
      clear hb
      go_wp2_with fail
      with_reducible refine T4.out.mono ?_
      rintro r w11 ⟨rfl, hb⟩
      have D11 := Lib.hid (D10.out.trans (hb.mono D10.out.size))
      clear hb
      go_wp2_with fail
      refine (awake_any w11).mono ?_
      rintro r w12 ⟨rfl, hb⟩
      have D12 := Lib.hid (D11.out.trans (hb.mono D11.out.size))
      clear hb
      go_wp2_with fail
      go_ret
      exact ⟨rfl, HB1.out.trans (D12.out.mono HB1.out.size)⟩
set_option maxRecDepth 100000 in
set_option maxHeartbeats 4000000 in
theorem tells_any (l : List Ev) (A : Option Addr) (cap : Nat) (n : Int) (e : Ev) (w : World) (hA : Evs w w.heap.size A l) (hA0 : A = none → l.length = 0) (hl : l.length ≤ 140737488351232) (hcap : l.length ≤ cap) (hn : (-9223372036854775808 : Int) ≤ n ∧ n ≤ 9223372036854775807) :
    Calls Try.prog 3 #[.slice A l.length cap, .int .i64 n, e.v] w fun r w' => r = .returned (.bool true) ∧ Below w.heap.size w w' := by
  by_cases g1 : 120 < l.length ∧ l.length < 1024
  · obtain ⟨m, hm⟩ : ∃ m, m = l.length := ⟨_, rfl⟩
    rw [← hm] at g1 ⊢
    obtain ⟨g2, g3⟩ := g1
    clear hA hA0 hl hcap hm
    obtain ⟨et, ek, eo⟩ := e
    unfold Ev.v
    go_enter Try.func3, Try.ntmps3
    go_wp2_with fail
    go_ret
    exact ⟨rfl, below_alloc _ _⟩
  · by_cases g2 : 1029 < l.length
    · obtain ⟨m, hm⟩ : ∃ m, m = l.length := ⟨_, rfl⟩
      rw [← hm] at g2 ⊢
      have g3 : 120 < m := by omega
      have g4 : ¬ m < 1024 := by omega
      clear hA hA0 hl hcap hm g1
      obtain ⟨et, ek, eo⟩ := e
      unfold Ev.v
      go_enter Try.func3, Try.ntmps3
      go_wp2_with fail
      go_ret
      exact ⟨rfl, below_alloc _ _⟩
    · by_cases g3 : l.length = 1024 ∧ 1 ≤ n ∧ n ≤ 16
      · obtain ⟨m, hm⟩ : ∃ m, m = l.length := ⟨_, rfl⟩
        rw [← hm] at g3 ⊢
        obtain ⟨h1, h2, h3⟩ := g3
        have u1 : decide ((1 : Int) ≤ n) = true := decide_eq_true h2
        have u2 : decide (n ≤ (16 : Int)) = true := decide_eq_true h3
        clear hA hA0 hl hcap hm g1 g2
        obtain ⟨et, ek, eo⟩ := e
        unfold Ev.v
        subst h1
        go_enter Try.func3, Try.ntmps3
        go_wp2_with fail
        go_ret
        exact ⟨rfl, below_alloc _ _⟩
      · exact tells_good l l.length rfl (by omega) A cap n e w hA hA0 hcap g1 g3
end Go.Proofs.Ytkcpoebepiipoaa
