/- the law's own search for what happens ahead of what. -/
import Derived.Test.YtmllmfjdbfikoaaCk
set_option linter.unusedSimpArgs false
set_option linter.unusedVariables false
namespace Go.Proofs.Ytmllmfjdbfikoaa
open Go.RowKit

def want (l : List Ev) (i j k : Nat) : Bool := decide (i < j) && (dpd (ev l i) (ev l j) || (List.range k).any fun q => decide (i < q) && (hb l i q && dpd (ev l q) (ev l j)))
theorem want_iff (l : List Ev) (i j k : Nat) : want l i j k = true ↔ i < j ∧ (dpd (ev l i) (ev l j) = true ∨ ∃ q, q < k ∧ i < q ∧ hb l i q = true ∧ dpd (ev l q) (ev l j) = true) := by
  unfold want
  simp only [Bool.and_eq_true, decide_eq_true_eq, Bool.or_eq_true, List.any_eq_true, List.mem_range]
theorem want_none (l : List Ev) (i j k : Nat) (h : ¬ i < j) : want l i j k = false := by
  cases e : want l i j k with
  | false => rfl
  | true => exact absurd ((want_iff l i j k).1 e).1 h
theorem want_zero (l : List Ev) (i j : Nat) (h : i < j) : want l i j (i + 1) = dpd (ev l i) (ev l j) := by
  rw [Bool.eq_iff_iff, want_iff]
  constructor
  · rintro ⟨_, h | ⟨q, h1, h2, _⟩⟩
    · exact h
    · omega
  · exact fun h1 => ⟨h, .inl h1⟩
theorem want_step (l : List Ev) (i j k : Nat) (hik : i < k) (hkj : k < j) (h : want l i j k = false) : want l i j (k + 1) = (hb l i k && dpd (ev l k) (ev l j)) := by
  rw [Bool.eq_iff_iff, want_iff, Bool.and_eq_true]
  have h : ¬ want l i j k = true := by rw [h]; exact Bool.false_ne_true
  rw [want_iff] at h
  constructor
  · rintro ⟨h1, h2 | ⟨q, h2, h3, h4⟩⟩
    · exact absurd ⟨h1, .inl h2⟩ h
    · by_cases e : q = k
      · subst e; exact h4
      · exact absurd ⟨h1, .inr ⟨q, by omega, h3, h4⟩⟩ h
  · exact fun h1 => ⟨by omega, .inr ⟨k, by omega, hik, h1⟩⟩
theorem want_hb (l : List Ev) (i j k : Nat) (hk : k ≤ j ∨ k = i + 1) (h : want l i j k = true ∨ j ≤ k) : want l i j k = hb l i j := by
  rw [Bool.eq_iff_iff, hb_iff]
  constructor
  · rw [want_iff]
    rintro ⟨h1, h2 | ⟨q, h2, h3, h4, h5⟩⟩
    · exact ⟨h1, .inl h2⟩
    · exact ⟨h1, .inr ⟨q, h3, by omega, h4, h5⟩⟩
  · rintro ⟨h1, h2⟩
    rcases h with h | h
    · exact h
    · rw [want_iff]
      refine ⟨h1, ?_⟩
      rcases h2 with h2 | ⟨q, h2, h3, h4⟩
      · exact .inl h2
      · exact .inr ⟨q, by omega, h2, h4⟩
set_option maxRecDepth 100000 in
set_option maxHeartbeats 8000000 in
theorem orders_law (l : List Ev) (m : Nat) (hm : m = l.length) (hl : m ≤ 1000000) (n : Nat) (hn : n ≤ 1000) (hgood : ∀ i, i < m → 0 ≤ (ev l i).t ∧ (ev l i).t < n) (A Ac : Option Addr) (cl cc B Bc : Nat) (w : World)
    (hA : Evs w B A l) (hB : B ≤ w.heap.size) (hc : Clk w Bc Ac m n (clk l)) (hBc : Bc ≤ w.heap.size) :
    Calls Try.prog 13 #[.slice Ac m cc, .slice A m cl] w fun e w' => e = .returned (.bool true) ∧ Below w.heap.size w w' := by
  have AH : Hid (∀ i j, i < m → j < m → ∀ W, Below w.heap.size w W → Calls Try.prog 9 #[.slice Ac m cc, .slice A m cl, .int .i64 (i : Nat), .int .i64 (j : Nat)] W fun e w' => ∃ v, e = .returned v ∧ Below W.heap.size W w' ∧ ttHolds (.inl (.bool (hb l i j))) v w') := Lib.hid (fun i j hi hj W hW =>
    (ahead_law l m hm hl n hn hgood (clk l) i j hi hj A Ac cl cc B Bc W (hA.below (hW.mono hB)) (Nat.le_trans hB hW.size) (hc.below (hW.mono hBc)) (Nat.le_trans hBc hW.size)).mono fun e w' ⟨h1, h2⟩ => ⟨_, h1, h2, by rw [aheadB_hb l i j (hgood i hi).1]; rfl⟩)
  have DP : Hid (∀ i j W, Calls Try.prog 15 #[.agg #[.int .i64 (ev l i).t, .int .i64 (ev l i).k, .int .i64 (ev l i).o], .agg #[.int .i64 (ev l j).t, .int .i64 (ev l j).k, .int .i64 (ev l j).o]] W fun e W' => ∃ v, e = .returned v ∧ Below W.heap.size W W' ∧ ttHolds (.inl (.bool (dpd (ev l i) (ev l j)))) v W') := Lib.hid (fun i j W =>
    (depends_any (ev l i) (ev l j) W).mono fun e w' ⟨h1, h2⟩ => ⟨_, h1, h2, rfl⟩)
  have RD : Hid (∀ i, i < m → ∃ b o, A = some ⟨b, o, none⟩ ∧ ∀ W, Below w.heap.size w W → W.cell? ⟨b, o + i * 3, none⟩ = some (.int .i64 (ev l i).t) ∧ W.cell? ⟨b, o + i * 3 + 1, none⟩ = some (.int .i64 (ev l i).k) ∧ W.cell? ⟨b, o + i * 3 + 2, none⟩ = some (.int .i64 (ev l i).o)) := Lib.hid (fun i hi => by
    obtain ⟨b, o, e, hb, h1, h2, h3⟩ := hA i (by omega)
    have := World.block_lt_of_cell? _ _ h1
    exact ⟨b, o, e, fun W hW => ⟨(hW.cell (p := ⟨b, o + i * 3, none⟩) this).trans h1, (hW.cell (p := ⟨b, o + i * 3 + 1, none⟩) this).trans h2, (hW.cell (p := ⟨b, o + i * 3 + 2, none⟩) this).trans h3⟩⟩)
  clear hA hc hgood hm
  go_enter Try.func13, Try.ntmps13
  go_wp2_with fail
  go_loopw [5] (fun jv wr => ∃ j : Nat, j ≤ m ∧ jv = .int .i64 j ∧ Below w.heap.size w wr) (fun jv _ => m - (intOf jv).toNat)
  case atStart => exact ⟨0, by omega, rfl, Below.refl _ _⟩
  case round =>
    obtain ⟨j, hj, rfl, hbj⟩ := hrel
    have Hbj := Lib.hid hbj
    clear hbj
    by_cases hjm : j < m
    · go_wp2_with fail
      go_loopw [6] (fun iv wr => ∃ i : Nat, i ≤ m ∧ iv = .int .i64 i ∧ Below w.heap.size w wr) (fun iv _ => m - (intOf iv).toNat)
      case atStart => exact ⟨0, by omega, rfl, Hbj.out⟩
      case round =>
        obtain ⟨i, hi, rfl, hbi⟩ := hrel
        have Hbi := Lib.hid hbi
        clear hbi
        by_cases him : i < m
        · obtain ⟨b, o, rfl, ri⟩ := RD.out i him
          obtain ⟨_, _, e, rj⟩ := RD.out j hjm
          injection e with e; injection e with e1 e2; subst e1 e2
          have T : Hid (∀ W, Below wr.heap.size wr W → (W.cell? ⟨b, o + i * 3, none⟩ = some (.int .i64 (ev l i).t) ∧ W.cell? ⟨b, o + i * 3 + 1, none⟩ = some (.int .i64 (ev l i).k) ∧ W.cell? ⟨b, o + i * 3 + 2, none⟩ = some (.int .i64 (ev l i).o)) ∧ (W.cell? ⟨b, o + j * 3, none⟩ = some (.int .i64 (ev l j).t) ∧ W.cell? ⟨b, o + j * 3 + 1, none⟩ = some (.int .i64 (ev l j).k) ∧ W.cell? ⟨b, o + j * 3 + 2, none⟩ = some (.int .i64 (ev l j).o))) := Lib.hid (fun W hW => ⟨ri W (Hbi.out.trans (hW.mono Hbi.out.size)), rj W (Hbi.out.trans (hW.mono Hbi.out.size))⟩)
          have RJ := Lib.hid rj
          clear ri rj
          have g1 : (0 : Int) ≤ i := by omega
          have g2 : (i : Int) < m := by omega
          have g3 : (0 : Int) ≤ j := by omega
          have g4 : (j : Int) < m := by omega
          go_upto_region 7 with (fail)
          have Hmid : Hid (decide ((i : Int) < j) = decide (i < j)) := Lib.hid (by rw [decide_eq_decide]; omega)
          by_cases hij : i < j
          · have d1 : decide ((i : Int) < j) = true := by rw [decide_eq_true_iff]; omega
            have Hwz := Lib.hid (want_zero l i j hij)
            have D := Lib.hid (DP.out i j)
            apply wp_region_relH (H := []) 15 [.inl _, .inl _, .inl _, .inl _, .inl _, .inl _, .inl _, .inl _, .inl _, .inl _, .inl _, .inl _, .inl _, .inl _, .inl _] (by kernel_rfl) (by kernel_rfl) (fun _ _ _ _ _ h => h) rfl
            simp only [List.take_succ_cons, List.take_zero, List.drop_succ_cons, List.drop_zero]
            iterate 12 (apply rel_isS; (intro W hW hf; obtain ⟨⟨hx1, hx2, hx3⟩, hx4, hx5, hx6⟩ := T.out W hW; go_simp; first | exact ⟨StayS.refl _ _, rfl⟩ | rfl); simp only [Act.put, List.setIfInBounds_toArray, List.set_cons_succ, List.set_cons_zero])
            apply rel_isS
            · intro W hW hf
              exact rel_callS hW rfl (by go_simp <;> first | rfl | exact ⟨rfl, rfl⟩ | exact ⟨rfl, rfl, rfl⟩) (D.out W)
            simp only [Act.put, List.setIfInBounds_toArray, List.set_cons_succ, List.set_cons_zero]
            iterate 2 (apply rel_isS; (intro W hW hf; go_simp; first | exact ⟨StayS.refl _ _, rfl⟩ | rfl); simp only [Act.put, List.setIfInBounds_toArray, List.set_cons_succ, List.set_cons_zero])
            refine rel_endS ?_
            intro W hW hf
            try simp only [Act.put, List.setIfInBounds_toArray, List.set_cons_succ, List.set_cons_zero]
            refine wpList_nil ?_
            have HW := Lib.hid (Hbi.out.trans (hW.mono Hbi.out.size))
            clear hW hf
            rw [← Hwz.out]
            go_wp2_with fail
            go_loopw [7, 8] (fun wv kv wr => ∃ k : Nat, (k ≤ j ∨ k = i + 1) ∧ i < k ∧ wv = .bool (want l i j k) ∧ kv = .int .i64 k ∧ Below w.heap.size w wr) (fun _ kv _ => j - (intOf kv).toNat)
            case atStart => exact ⟨i + 1, .inr rfl, by omega, rfl, by go_num, HW.out⟩
            case round =>
              obtain ⟨k, hk, hik, rfl, rfl, hbk⟩ := hrel
              have Hbk := Lib.hid hbk
              clear hbk
              have hkm : k ≤ m := by omega
              by_cases hgo : k < j ∧ want l i j k = false
              · obtain ⟨hkj, hwf⟩ := hgo
                have hnij : ¬ (j ≤ i) := by omega
                have Hst := Lib.hid (want_step l i j k hik hkj hwf)
                rw [hwf]
                clear hwf
                obtain ⟨_, _, e, rk⟩ := RD.out k (by omega)
                injection e with e; injection e with e1 e2; subst e1 e2
                have T2 : Hid (∀ W, Below wr.heap.size wr W → (W.cell? ⟨b, o + k * 3, none⟩ = some (.int .i64 (ev l k).t) ∧ W.cell? ⟨b, o + k * 3 + 1, none⟩ = some (.int .i64 (ev l k).k) ∧ W.cell? ⟨b, o + k * 3 + 2, none⟩ = some (.int .i64 (ev l k).o)) ∧ (W.cell? ⟨b, o + j * 3, none⟩ = some (.int .i64 (ev l j).t) ∧ W.cell? ⟨b, o + j * 3 + 1, none⟩ = some (.int .i64 (ev l j).k) ∧ W.cell? ⟨b, o + j * 3 + 2, none⟩ = some (.int .i64 (ev l j).o))) := Lib.hid (fun W hW => ⟨rk W (Hbk.out.trans (hW.mono Hbk.out.size)), RJ.out W (Hbk.out.trans (hW.mono Hbk.out.size))⟩)
                clear rk
                have AK : Hid (∀ W, Below wr.heap.size wr W → _) := Lib.hid (fun W hW => AH.out i k him (by omega) W (Hbk.out.trans (hW.mono Hbk.out.size)))
                have DK := Lib.hid (DP.out k j)
                have g5 : (0 : Int) ≤ k := by omega
                have g6 : (k : Int) < m := by omega
                have d2 : decide ((k : Int) < j) = true := by rw [decide_eq_true_iff]; omega
                go_upto_region 11 with (fail)
                rcases hh : hb l i k with _ | _
                · rw [hh] at AK Hst
                  clear hh
                  apply wp_region_relH (H := []) 17 [.inl _, .inl _, .inl _, .inl _, .inl _, .inl _, .inl _, .inl _, .inl _, .inl _, .inl _, .inl _, .inl _, .inl _, .inl _, .inl _, .inl _] (by kernel_rfl) (by kernel_rfl) (fun _ _ _ _ _ h => h) rfl
                  simp only [List.take_succ_cons, List.take_zero, List.drop_succ_cons, List.drop_zero]
                  iterate 4 (apply rel_isS; (intro W hW hf; go_simp; first | exact ⟨StayS.refl _ _, rfl⟩ | rfl); simp only [Act.put, List.setIfInBounds_toArray, List.set_cons_succ, List.set_cons_zero])
                  apply rel_isS
                  · intro W hW hf
                    exact rel_callS hW rfl (by go_simp <;> first | rfl | exact ⟨rfl, rfl⟩ | exact ⟨rfl, rfl, rfl⟩) (AK.out W hW)
                  simp only [Act.put, List.setIfInBounds_toArray, List.set_cons_succ, List.set_cons_zero]
                  iterate 12 (apply rel_isS; (intro W hW hf; go_simp; first | exact ⟨StayS.refl _ _, rfl⟩ | rfl); simp only [Act.put, List.setIfInBounds_toArray, List.set_cons_succ, List.set_cons_zero])
                  refine rel_endS ?_
                  intro W hW hf
                  try simp only [Act.put, List.setIfInBounds_toArray, List.set_cons_succ, List.set_cons_zero]
                  refine wpList_nil ?_
                  have HX := Lib.hid (Hbk.out.trans (hW.mono Hbk.out.size))
                  clear hW hf
                  go_wp2_with fail
                  go_roundw
                  case rel => exact ⟨k + 1, .inl (by omega), by omega, by rw [Hst.out]; rfl, by go_num, HX.out⟩
                  case measure => simp [intOf]; omega
                · rw [hh] at AK Hst
                  clear hh
                  apply wp_region_relH (H := []) 17 [.inl _, .inl _, .inl _, .inl _, .inl _, .inl _, .inl _, .inl _, .inl _, .inl _, .inl _, .inl _, .inl _, .inl _, .inl _, .inl _, .inl _] (by kernel_rfl) (by kernel_rfl) (fun _ _ _ _ _ h => h) rfl
                  simp only [List.take_succ_cons, List.take_zero, List.drop_succ_cons, List.drop_zero]
                  iterate 4 (apply rel_isS; (intro W hW hf; go_simp; first | exact ⟨StayS.refl _ _, rfl⟩ | rfl); simp only [Act.put, List.setIfInBounds_toArray, List.set_cons_succ, List.set_cons_zero])
                  apply rel_isS
                  · intro W hW hf
                    exact rel_callS hW rfl (by go_simp <;> first | rfl | exact ⟨rfl, rfl⟩ | exact ⟨rfl, rfl, rfl⟩) (AK.out W hW)
                  simp only [Act.put, List.setIfInBounds_toArray, List.set_cons_succ, List.set_cons_zero]
                  iterate 9 (apply rel_isS; (intro W hW hf; obtain ⟨⟨hx1, hx2, hx3⟩, hx4, hx5, hx6⟩ := T2.out W hW; go_simp; first | exact ⟨StayS.refl _ _, rfl⟩ | rfl); simp only [Act.put, List.setIfInBounds_toArray, List.set_cons_succ, List.set_cons_zero])
                  apply rel_isS
                  · intro W hW hf
                    exact rel_callS hW rfl (by go_simp <;> first | rfl | exact ⟨rfl, rfl⟩ | exact ⟨rfl, rfl, rfl⟩) (DK.out W)
                  simp only [Act.put, List.setIfInBounds_toArray, List.set_cons_succ, List.set_cons_zero]
                  iterate 2 (apply rel_isS; (intro W hW hf; go_simp; first | exact ⟨StayS.refl _ _, rfl⟩ | rfl); simp only [Act.put, List.setIfInBounds_toArray, List.set_cons_succ, List.set_cons_zero])
                  refine rel_endS ?_
                  intro W hW hf
                  try simp only [Act.put, List.setIfInBounds_toArray, List.set_cons_succ, List.set_cons_zero]
                  refine wpList_nil ?_
                  have HX := Lib.hid (Hbk.out.trans (hW.mono Hbk.out.size))
                  clear hW hf
                  go_wp2_with fail
                  go_roundw
                  case rel => exact ⟨k + 1, .inl (by omega), by omega, by rw [Hst.out]; rfl, by go_num, HX.out⟩
                  case measure => simp [intOf]; omega
              · have Hq := Lib.hid (want_hb l i j k hk (by
                  by_cases h : k < j
                  · left
                    cases e : want l i j k with
                    | true => rfl
                    | false => exact absurd ⟨h, e⟩ hgo
                  · exact .inr (by omega)))
                have AJ := Lib.hid (AH.out i j him hjm)
                rw [← Hq.out] at AJ
                have hor : (j : Int) ≤ k ∨ want l i j k = true := by
                  by_cases h : k < j
                  · right
                    cases e : want l i j k with
                    | true => rfl
                    | false => exact absurd ⟨h, e⟩ hgo
                  · exact .inl (by omega)
                clear hgo
                generalize want l i j k = r at *
                rcases hor with hor | rfl
                · cases r
                  all_goals
                    go_wp2_with fail
                    with_reducible refine (AJ.out wr Hbk.out).mono ?_
                    rintro e w5 ⟨v, rfl, hb5, hv⟩
                    have hv : v = _ := hv
                    subst hv
                    have Hb5 := Lib.hid (Hbk.out.trans (hb5.mono Hbk.out.size))
                    clear hb5
                    go_wp2_with fail
                    go_roundw
                    case rel => exact ⟨i + 1, by omega, by go_num, Hb5.out⟩
                    case measure => simp [intOf]; omega
                · rcases (show (k : Int) < j ∨ (j : Int) ≤ k by omega) with hc5 | hc5
                  all_goals
                    go_wp2_with fail
                    with_reducible refine (AJ.out wr Hbk.out).mono ?_
                    rintro e w5 ⟨v, rfl, hb5, hv⟩
                    have hv : v = _ := hv
                    subst hv
                    have Hb5 := Lib.hid (Hbk.out.trans (hb5.mono Hbk.out.size))
                    clear hb5
                    go_wp2_with fail
                    go_roundw
                    case rel => exact ⟨i + 1, by omega, by go_num, Hb5.out⟩
                    case measure => simp [intOf]; omega
          · have d1 : decide ((i : Int) < j) = false := by rw [decide_eq_false_iff_not]; omega
            have Hwz := Lib.hid (want_none l i j (i + 1) hij)
            apply wp_region_relH (H := []) 15 [.inl _, .inl _, .inl _, .inl _, .inl _, .inl _, .inl _, .inl _, .inl _, .inl _, .inl _, .inl _, .inl _, .inl _, .inl _] (by kernel_rfl) (by kernel_rfl) (fun _ _ _ _ _ h => h) rfl
            simp only [List.take_succ_cons, List.take_zero, List.drop_succ_cons, List.drop_zero]
            iterate 15 (apply rel_isS; (intro W hW hf; go_simp; first | exact ⟨StayS.refl _ _, rfl⟩ | rfl); simp only [Act.put, List.setIfInBounds_toArray, List.set_cons_succ, List.set_cons_zero])
            refine rel_endS ?_
            intro W hW hf
            try simp only [Act.put, List.setIfInBounds_toArray, List.set_cons_succ, List.set_cons_zero]
            refine wpList_nil ?_
            have HW := Lib.hid (Hbi.out.trans (hW.mono Hbi.out.size))
            clear hW hf
            rw [← Hwz.out]
            go_wp2_with fail
            go_loopw [7, 8] (fun wv kv wr => ∃ k : Nat, (k ≤ j ∨ k = i + 1) ∧ i < k ∧ wv = .bool (want l i j k) ∧ kv = .int .i64 k ∧ Below w.heap.size w wr) (fun _ kv _ => j - (intOf kv).toNat)
            case atStart => exact ⟨i + 1, .inr rfl, by omega, rfl, by go_num, HW.out⟩
            case round =>
              obtain ⟨k, hk, hik, rfl, rfl, hbk⟩ := hrel
              have Hbk := Lib.hid hbk
              clear hbk
              have hkm : k ≤ m := by omega
              by_cases hgo : k < j ∧ want l i j k = false
              · obtain ⟨hkj, hwf⟩ := hgo
                have hnij : ¬ (j ≤ i) := by omega
                have Hst := Lib.hid (want_step l i j k hik hkj hwf)
                rw [hwf]
                clear hwf
                obtain ⟨_, _, e, rk⟩ := RD.out k (by omega)
                injection e with e; injection e with e1 e2; subst e1 e2
                have T2 : Hid (∀ W, Below wr.heap.size wr W → (W.cell? ⟨b, o + k * 3, none⟩ = some (.int .i64 (ev l k).t) ∧ W.cell? ⟨b, o + k * 3 + 1, none⟩ = some (.int .i64 (ev l k).k) ∧ W.cell? ⟨b, o + k * 3 + 2, none⟩ = some (.int .i64 (ev l k).o)) ∧ (W.cell? ⟨b, o + j * 3, none⟩ = some (.int .i64 (ev l j).t) ∧ W.cell? ⟨b, o + j * 3 + 1, none⟩ = some (.int .i64 (ev l j).k) ∧ W.cell? ⟨b, o + j * 3 + 2, none⟩ = some (.int .i64 (ev l j).o))) := Lib.hid (fun W hW => ⟨rk W (Hbk.out.trans (hW.mono Hbk.out.size)), RJ.out W (Hbk.out.trans (hW.mono Hbk.out.size))⟩)
                clear rk
                have AK : Hid (∀ W, Below wr.heap.size wr W → _) := Lib.hid (fun W hW => AH.out i k him (by omega) W (Hbk.out.trans (hW.mono Hbk.out.size)))
                have DK := Lib.hid (DP.out k j)
                have g5 : (0 : Int) ≤ k := by omega
                have g6 : (k : Int) < m := by omega
                have d2 : decide ((k : Int) < j) = true := by rw [decide_eq_true_iff]; omega
                go_upto_region 11 with (fail)
                rcases hh : hb l i k with _ | _
                · rw [hh] at AK Hst
                  clear hh
                  apply wp_region_relH (H := []) 17 [.inl _, .inl _, .inl _, .inl _, .inl _, .inl _, .inl _, .inl _, .inl _, .inl _, .inl _, .inl _, .inl _, .inl _, .inl _, .inl _, .inl _] (by kernel_rfl) (by kernel_rfl) (fun _ _ _ _ _ h => h) rfl
                  simp only [List.take_succ_cons, List.take_zero, List.drop_succ_cons, List.drop_zero]
                  iterate 4 (apply rel_isS; (intro W hW hf; go_simp; first | exact ⟨StayS.refl _ _, rfl⟩ | rfl); simp only [Act.put, List.setIfInBounds_toArray, List.set_cons_succ, List.set_cons_zero])
                  apply rel_isS
                  · intro W hW hf
                    exact rel_callS hW rfl (by go_simp <;> first | rfl | exact ⟨rfl, rfl⟩ | exact ⟨rfl, rfl, rfl⟩) (AK.out W hW)
                  simp only [Act.put, List.setIfInBounds_toArray, List.set_cons_succ, List.set_cons_zero]
                  iterate 12 (apply rel_isS; (intro W hW hf; go_simp; first | exact ⟨StayS.refl _ _, rfl⟩ | rfl); simp only [Act.put, List.setIfInBounds_toArray, List.set_cons_succ, List.set_cons_zero])
                  refine rel_endS ?_
                  intro W hW hf
                  try simp only [Act.put, List.setIfInBounds_toArray, List.set_cons_succ, List.set_cons_zero]
                  refine wpList_nil ?_
                  have HX := Lib.hid (Hbk.out.trans (hW.mono Hbk.out.size))
                  clear hW hf
                  go_wp2_with fail
                  go_roundw
                  case rel => exact ⟨k + 1, .inl (by omega), by omega, by rw [Hst.out]; rfl, by go_num, HX.out⟩
                  case measure => simp [intOf]; omega
                · rw [hh] at AK Hst
                  clear hh
                  apply wp_region_relH (H := []) 17 [.inl _, .inl _, .inl _, .inl _, .inl _, .inl _, .inl _, .inl _, .inl _, .inl _, .inl _, .inl _, .inl _, .inl _, .inl _, .inl _, .inl _] (by kernel_rfl) (by kernel_rfl) (fun _ _ _ _ _ h => h) rfl
                  simp only [List.take_succ_cons, List.take_zero, List.drop_succ_cons, List.drop_zero]
                  iterate 4 (apply rel_isS; (intro W hW hf; go_simp; first | exact ⟨StayS.refl _ _, rfl⟩ | rfl); simp only [Act.put, List.setIfInBounds_toArray, List.set_cons_succ, List.set_cons_zero])
                  apply rel_isS
                  · intro W hW hf
                    exact rel_callS hW rfl (by go_simp <;> first | rfl | exact ⟨rfl, rfl⟩ | exact ⟨rfl, rfl, rfl⟩) (AK.out W hW)
                  simp only [Act.put, List.setIfInBounds_toArray, List.set_cons_succ, List.set_cons_zero]
                  iterate 9 (apply rel_isS; (intro W hW hf; obtain ⟨⟨hx1, hx2, hx3⟩, hx4, hx5, hx6⟩ := T2.out W hW; go_simp; first | exact ⟨StayS.refl _ _, rfl⟩ | rfl); simp only [Act.put, List.setIfInBounds_toArray, List.set_cons_succ, List.set_cons_zero])
                  apply rel_isS
                  · intro W hW hf
                    exact rel_callS hW rfl (by go_simp <;> first | rfl | exact ⟨rfl, rfl⟩ | exact ⟨rfl, rfl, rfl⟩) (DK.out W)
                  simp only [Act.put, List.setIfInBounds_toArray, List.set_cons_succ, List.set_cons_zero]
                  iterate 2 (apply rel_isS; (intro W hW hf; go_simp; first | exact ⟨StayS.refl _ _, rfl⟩ | rfl); simp only [Act.put, List.setIfInBounds_toArray, List.set_cons_succ, List.set_cons_zero])
                  refine rel_endS ?_
                  intro W hW hf
                  try simp only [Act.put, List.setIfInBounds_toArray, List.set_cons_succ, List.set_cons_zero]
                  refine wpList_nil ?_
                  have HX := Lib.hid (Hbk.out.trans (hW.mono Hbk.out.size))
                  clear hW hf
                  go_wp2_with fail
                  go_roundw
                  case rel => exact ⟨k + 1, .inl (by omega), by omega, by rw [Hst.out]; rfl, by go_num, HX.out⟩
                  case measure => simp [intOf]; omega
              · have Hq := Lib.hid (want_hb l i j k hk (by
                  by_cases h : k < j
                  · left
                    cases e : want l i j k with
                    | true => rfl
                    | false => exact absurd ⟨h, e⟩ hgo
                  · exact .inr (by omega)))
                have AJ := Lib.hid (AH.out i j him hjm)
                rw [← Hq.out] at AJ
                have hor : (j : Int) ≤ k ∨ want l i j k = true := by
                  by_cases h : k < j
                  · right
                    cases e : want l i j k with
                    | true => rfl
                    | false => exact absurd ⟨h, e⟩ hgo
                  · exact .inl (by omega)
                clear hgo
                generalize want l i j k = r at *
                rcases hor with hor | rfl
                · cases r
                  all_goals
                    go_wp2_with fail
                    with_reducible refine (AJ.out wr Hbk.out).mono ?_
                    rintro e w5 ⟨v, rfl, hb5, hv⟩
                    have hv : v = _ := hv
                    subst hv
                    have Hb5 := Lib.hid (Hbk.out.trans (hb5.mono Hbk.out.size))
                    clear hb5
                    go_wp2_with fail
                    go_roundw
                    case rel => exact ⟨i + 1, by omega, by go_num, Hb5.out⟩
                    case measure => simp [intOf]; omega
                · rcases (show (k : Int) < j ∨ (j : Int) ≤ k by omega) with hc5 | hc5
                  all_goals
                    go_wp2_with fail
                    with_reducible refine (AJ.out wr Hbk.out).mono ?_
                    rintro e w5 ⟨v, rfl, hb5, hv⟩
                    have hv : v = _ := hv
                    subst hv
                    have Hb5 := Lib.hid (Hbk.out.trans (hb5.mono Hbk.out.size))
                    clear hb5
                    go_wp2_with fail
                    go_roundw
                    case rel => exact ⟨i + 1, by omega, by go_num, Hb5.out⟩
                    case measure => simp [intOf]; omega
        · obtain rfl : i = m := by omega
          go_wp2_with fail
          go_roundw
          case rel => exact ⟨j + 1, by omega, by go_num, Hbi.out⟩
          case measure => simp [intOf]; omega
    · obtain rfl : j = m := by omega
      go_wp2_with fail
      go_ret
      exact ⟨rfl, Hbj.out⟩
end Go.Proofs.Ytmllmfjdbfikoaa
