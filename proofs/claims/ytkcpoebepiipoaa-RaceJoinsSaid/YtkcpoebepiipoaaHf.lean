/- RaceJoins: what happens ahead of what comes of races and of the threads' own order. -/
import Derived.Test.YtkcpoebepiipoaaHe
import Derived.Test.YtkcpoebepiipoaaGn
set_option linter.unusedSimpArgs false
set_option linter.unusedVariables false
namespace Go.Proofs.Ytkcpoebepiipoaa
open Go.RowKit

theorem rc_trans {r : Nat → Nat → Bool} {i k : Nat} (h1 : rc r i k = true) : ∀ j, rc r k j = true → rc r i j = true := by
  intro j
  induction j using Nat.strongRecOn with
  | _ j ih =>
    intro h2
    have hik := rc_lt h1
    obtain ⟨hkj, h3 | ⟨k', h4, h5, h6, h7⟩⟩ := (rc_iff _ _ _).1 h2
    · exact (rc_iff _ _ _).2 ⟨by omega, .inr ⟨k, hik, hkj, h1, h3⟩⟩
    · exact (rc_iff _ _ _).2 ⟨by omega, .inr ⟨k', by omega, h5, ih k' h5 h6, h7⟩⟩
theorem rc_mono {r r' : Nat → Nat → Bool} {n : Nat} (h : ∀ i j, i < j → j < n → r i j = true → r' i j = true) : ∀ j, j < n → ∀ i, rc r i j = true → rc r' i j = true := by
  intro j
  induction j using Nat.strongRecOn with
  | _ j ih =>
    intro hj i h1
    obtain ⟨hij, h3 | ⟨k, h4, h5, h6, h7⟩⟩ := (rc_iff _ _ _).1 h1
    · exact (rc_iff _ _ _).2 ⟨hij, .inl (h i j hij hj h3)⟩
    · exact (rc_iff _ _ _).2 ⟨hij, .inr ⟨k, h4, h5, ih k h5 (by omega) i h6, h k j h5 hj h7⟩⟩
theorem upTo_mem {l : List Ev} {n i j : Nat} (h1 : i < j) (h2 : j < n) (h3 : unl2 l i j = true) : (i, j) ∈ upTo l n := by
  unfold upTo
  refine List.mem_flatMap.2 ⟨j, by simpa using h2, ?_⟩
  unfold upRow
  exact List.mem_map.2 ⟨i, List.mem_filter.2 ⟨by simpa using h1, h3⟩, rfl⟩
theorem sifted_mem {d : Nat → Nat → Bool} {ps : List (Nat × Nat)} {i j : Nat} : (i, j) ∈ sifted d ps ↔ (i, j) ∈ ps ∧ d i j = true := by
  unfold sifted
  rw [List.mem_filter]
theorem dpd_of_race {l : List Ev} {i j : Nat} (h : raceB l i j = true) : dpd (ev l i) (ev l j) = true := by
  unfold raceB at h
  simp only [Bool.and_eq_true] at h
  exact h.1
theorem joins_hb (l : List Ev) (i : Nat) : ∀ j, j < l.length → hb l i j = rc (jn l (sifted (raceB l) (upTo l l.length))) i j := by
  have hjn : ∀ a b, jn l (sifted (raceB l) (upTo l l.length)) a b = (decide ((ev l a).t = (ev l b).t) || decide ((a, b) ∈ sifted (raceB l) (upTo l l.length))) := fun a b => by unfold jn; rw [hasP_full]
  -- by steps of dependence, from races and threads
  have key : ∀ d j i, j - i = d → j < l.length → hb l i j = true → rc (jn l (sifted (raceB l) (upTo l l.length))) i j = true := by
    intro d
    induction d using Nat.strongRecOn with
    | _ d ih =>
      intro j i hd hj h
      have hij := hb_lt h
      have step : dpd (ev l i) (ev l j) = true → rc (jn l (sifted (raceB l) (upTo l l.length))) i j = true := by
        intro hdp
        by_cases ht : (ev l i).t = (ev l j).t
        · exact (rc_iff _ _ _).2 ⟨hij, .inl (by rw [hjn, decide_eq_true ht]; rfl)⟩
        · cases hb2 : btw l i j with
          | false =>
            refine (rc_iff _ _ _).2 ⟨hij, .inl ?_⟩
            rw [hjn, decide_eq_true (sifted_mem.2 ⟨upTo_mem hij hj (by unfold unl2; exact decide_eq_true ht), by unfold raceB; rw [hdp, hb2]; rfl⟩)]
            simp
          | true =>
            unfold btw at hb2
            obtain ⟨k, hk1, hk2⟩ := List.any_eq_true.1 hb2
            simp only [Bool.and_eq_true, decide_eq_true_eq, List.mem_range] at hk1 hk2
            obtain ⟨hk2, hk3, hk4⟩ := hk2
            exact rc_trans (ih (k - i) (by omega) k i rfl (by omega) hk3) j (ih (j - k) (by omega) j k rfl hj hk4)
      obtain ⟨_, h3 | ⟨k, h4, h5, h6, h7⟩⟩ := (hb_iff _ _ _).1 h
      · exact step h3
      · refine rc_trans (ih (k - i) (by omega) k i rfl (by omega) h6) j (ih (j - k) (by omega) j k rfl hj ((hb_iff _ _ _).2 ⟨h5, .inl h7⟩))
  intro j hj
  rw [Bool.eq_iff_iff]
  constructor
  · exact key (j - i) j i rfl hj
  · intro h
    rw [hb_rc]
    refine rc_mono (n := l.length) (fun a b hab hb' hr => ?_) j hj i h
    rw [hjn] at hr
    simp only [Bool.or_eq_true, decide_eq_true_eq] at hr
    rcases hr with hr | hr
    · exact dpd_same hr
    · exact dpd_of_race (sifted_mem.1 hr).2
theorem no_race_thread (l : List Ev) : ∀ j i, rc (jn l []) i j = true → (ev l i).t = (ev l j).t := by
  intro j
  induction j using Nat.strongRecOn with
  | _ j ih =>
    intro i h
    have e : ∀ a b, jn l [] a b = true → (ev l a).t = (ev l b).t := fun a b h => by
      unfold jn hasP at h
      simpa using h
    obtain ⟨hij, h3 | ⟨k, h4, h5, h6, h7⟩⟩ := (rc_iff _ _ _).1 h
    · exact e _ _ h3
    · exact (ih k h5 i h6).trans (e _ _ h7)
theorem no_race_dpd (l : List Ev) (h0 : sifted (raceB l) (upTo l l.length) = []) (i j : Nat) (hij : i < j) (hj : j < l.length) (ht : (ev l i).t ≠ (ev l j).t) : dpd (ev l i) (ev l j) = false := by
  cases hd : dpd (ev l i) (ev l j) with
  | false => rfl
  | true =>
    have h1 : hb l i j = true := (hb_iff _ _ _).2 ⟨hij, .inl hd⟩
    rw [joins_hb l i j hj, h0] at h1
    exact absurd (no_race_thread l j i h1) ht
set_option maxRecDepth 100000 in
set_option maxHeartbeats 8000000 in
theorem joins_any (l : List Ev) (A : Option Addr) (cap : Nat) (n : Int) (w : World) (hA : Evs w w.heap.size A l) (hA0 : A = none → l.length = 0) (hl : l.length ≤ 140737488351232) (hcap : l.length ≤ cap) (hn : (-9223372036854775808 : Int) ≤ n ∧ n ≤ 9223372036854775807) :
    Calls Try.prog 5 #[.slice A l.length cap, .int .i64 n] w fun e w' => e = .returned (.bool true) ∧ Below w.heap.size w w' := by
  obtain ⟨m, hm⟩ : ∃ m, m = l.length := ⟨_, rfl⟩
  rw [← hm] at hl hcap ⊢
  have HA := Lib.hid hA; have HM := Lib.hid hm
  clear hA hA0 hm
  go_enter Try.func5, Try.ntmps5
  go_wp2_with fail
  refine (known_any w).mono ?_
  rintro r w1 ⟨rfl, hb1⟩
  have HB1 := Lib.hid hb1
  have HA1 := Lib.hid ((HA.out.below hb1).more hb1.size)
  clear hb1
  by_cases h40 : 40 < m
  · go_wp2_with fail
    go_ret
    exact ⟨rfl, HB1.out⟩
  have hRA := races_any l m HM.out (by omega) n A cap hcap w1.heap.size w1 HA1.out (Nat.le_refl _)
  by_cases hw : wrongE l n = 0
  · obtain ⟨x1, x2, x3, x4⟩ := wrong_ok hw
    obtain ⟨nn, rfl⟩ := Int.eq_ofNat_of_zero_le (show 0 ≤ n by omega)
    have hps : racesL l nn = sifted (raceB l) (upTo l l.length) := by unfold racesL; rw [if_pos hw]
    have hj := joins_hb l
    have h0 := no_race_dpd l
    have hqs : (racesL l nn).length ≤ 4000000 := by
      rw [hps]
      have e1 : (sifted (raceB l) (upTo l l.length)).length ≤ (upTo l l.length).length := List.length_filter_le _ _
      have e2 := upTo_length l l.length
      have e3 : l.length * l.length ≤ 40 * 40 := Nat.mul_le_mul (by have := HM.out; omega) (by have := HM.out; omega)
      omega
    rw [← hps] at hj h0
    have HG := Lib.hid (fun i (hi : i < m) => good_at x4 (show i < l.length by rw [← HM.out]; exact hi))
    have HCL := Lib.hid (fun W (h : Below w1.heap.size w1 W) => clocks_at l m HM.out (by omega) nn hw A cap hcap w1.heap.size W (HA1.out.below h) h.size)
    rw [hw] at hRA
    generalize racesL l nn = ps at *
    have HJ := Lib.hid hj; have H0 := Lib.hid h0; have HRA := Lib.hid hRA
    clear hj h0 hps hw x4 hRA
    go_wp2_with fail
    with_reducible refine HRA.out.mono ?_
    rintro r w2 ⟨hb2, v, rfl, ho2⟩
    obtain ⟨P, cp, rfl, hrp, _, _⟩ := own_rdS ho2
    have HB2 := Lib.hid hb2; have HP2 := Lib.hid hrp
    have HC2 := Lib.hid (HCL.out w2 hb2)
    clear hb2 ho2 hrp HCL HRA
    obtain ⟨q, hq⟩ : ∃ q, q = ps.length := ⟨_, rfl⟩
    rw [← hq] at hqs ⊢
    have HQ := Lib.hid hq
    clear hq
    go_wp2_with fail
    with_reducible refine HC2.out.mono ?_
    rintro r w3 ⟨Ac, cc, rfl, hc3, hb3⟩
    have HB3 := Lib.hid (HB2.out.trans (hb3.mono HB2.out.size))
    have HK3 := Lib.hid hc3
    have HJN := Lib.hid (joined_any l m HM.out (by omega) ps q HQ.out hqs A P cap cp w3 ((HA1.out.below HB3.out).more HB3.out.size) ((HP2.out.below hb3).mono hb3.size))
    clear hc3 hb3 HC2
    go_wp2_with fail
    with_reducible refine HJN.out.mono ?_
    rintro r w4 ⟨hv, γ, rfl, hM4, hb4⟩
    have HM4 := Lib.hid hM4
    have HB4 := Lib.hid (HB3.out.trans (hb4.mono HB3.out.size))
    have HK4 := Lib.hid (HK3.out.below hb4)
    have HBc : Hid (w3.heap.size ≤ w4.heap.size) := Lib.hid hb4.size
    have HBw : Hid (Below w.heap.size w w4) := Lib.hid (HB1.out.trans (HB4.out.mono HB1.out.size))
    obtain ⟨Ah, ch, rfl, _, _, _⟩ := own_rd hM4.1
    clear hM4 hb4 HJN
    go_wp2_with fail
    go_loopw [11] (fun jv wr => ∃ j : Nat, j ≤ m ∧ jv = .int .i64 j ∧ Below w4.heap.size w4 wr) (fun jv _ => m - (intOf jv).toNat)
    case atStart => exact ⟨0, by omega, rfl, Below.refl _ _⟩
    case round =>
      obtain ⟨j, hj, rfl, hb⟩ := hrel
      have HB := Lib.hid hb
      clear hb
      by_cases hlt : j < m
      · go_upto_region 13 with (fail)
        go_loopw [12] (fun iv wr => ∃ i : Nat, i ≤ j ∧ iv = .int .i64 i ∧ Below w4.heap.size w4 wr) (fun iv _ => j - (intOf iv).toNat)
        case atStart => exact ⟨0, by omega, rfl, HB.out⟩
        case round =>
          obtain ⟨i, hi, rfl, hb⟩ := hrel
          have HBi := Lib.hid hb
          clear hb HB
          by_cases hij : i < j
          · have him : i < m := by omega
            have HX : Hid (aheadB (clk l) l i j = rc (jn l ps) i j) := Lib.hid (by rw [aheadB_hb l i j (HG.out i him).1]; exact HJ.out i j (by rw [← HM.out]; exact hlt))
            have HAh := Lib.hid (ahead_any l (by have := HM.out; omega) nn (by omega) (fun i hi => HG.out i (by rw [HM.out]; exact hi)) (clk l) i j (by rw [← HM.out]; exact him) (by rw [← HM.out]; exact hlt) A Ac cap cc w1.heap.size w3.heap.size wr ((HA1.out.below HB4.out).below (HBi.out.mono HB4.out.size)) (Nat.le_trans HB4.out.size HBi.out.size) (HM.out ▸ HK4.out.below (HBi.out.mono HBc.out)) (Nat.le_trans HBc.out HBi.out.size))
            rw [← HM.out, HX.out] at HAh
            obtain ⟨b', o', c', e, m1, m2⟩ := (HM4.out.ext HBi.out).row hlt
            injection e with e1 _ e2
            subst e1 e2
            have m3 := m2 i him
            obtain ⟨b, off, rfl, hbl, k1, k2, k3⟩ := HA1.out i (by rw [← HM.out]; exact him)
            obtain ⟨_, _, e3, _, d1, d2, d3⟩ := HA1.out j (by rw [← HM.out]; exact hlt)
            injection e3 with e3; injection e3 with e1 e2; subst e1 e2
            have HC : Hid (∀ W, Below wr.heap.size wr W → W.cell? ⟨b, off + i * 3, none⟩ = some (.int .i64 (ev l i).t) ∧ W.cell? ⟨b, off + i * 3 + 1, none⟩ = some (.int .i64 (ev l i).k) ∧ W.cell? ⟨b, off + i * 3 + 2, none⟩ = some (.int .i64 (ev l i).o) ∧ W.cell? ⟨b, off + j * 3, none⟩ = some (.int .i64 (ev l j).t) ∧ W.cell? ⟨b, off + j * 3 + 1, none⟩ = some (.int .i64 (ev l j).k) ∧ W.cell? ⟨b, off + j * 3 + 2, none⟩ = some (.int .i64 (ev l j).o) ∧ W.cell? ⟨b', o' + j, none⟩ = some (.slice (some ⟨γ j, 0, none⟩) m m) ∧ W.cell? ⟨γ j, i, none⟩ = some (.bool (rc (jn l ps) i j))) :=
              Lib.hid fun W h => by
                have hB2 := HB4.out.trans (HBi.out.mono HB4.out.size)
                have h' := hB2.trans (h.mono hB2.size)
                exact ⟨(h'.cell (p := ⟨b, _, none⟩) hbl).trans k1, (h'.cell (p := ⟨b, _, none⟩) hbl).trans k2, (h'.cell (p := ⟨b, _, none⟩) hbl).trans k3, (h'.cell (p := ⟨b, _, none⟩) hbl).trans d1, (h'.cell (p := ⟨b, _, none⟩) hbl).trans d2, (h'.cell (p := ⟨b, _, none⟩) hbl).trans d3, (h.cell (p := ⟨b', _, none⟩) (World.block_lt_of_cell? _ _ m1)).trans m1, (h.cell (p := ⟨γ j, _, none⟩) (World.block_lt_of_cell? _ _ m3)).trans m3⟩
            have HF := Lib.hid (fun W => depends_any (ev l i) (ev l j) W)
            have HD : Hid (q = 0 → (ev l i).t ≠ (ev l j).t → dpd (ev l i) (ev l j) = false) := Lib.hid (fun h0 ht => H0.out (List.eq_nil_of_length_eq_zero (by rw [← HQ.out]; exact h0)) i j hij (by rw [← HM.out]; exact hlt) ht)
            clear k1 k2 k3 d1 d2 d3 m1 m2 m3 HX
            simp only [ev_eta] at HF
            generalize rc (jn l ps) i j = hh at *
            generalize dpd (ev l i) (ev l j) = fb at *
            generalize ev l i = ei at *
            generalize ev l j = ej at *
            generalize γ j = gj at *
            go_wp2_with fail
            with_reducible refine HAh.out.mono ?_
            rintro r w5 ⟨rfl, hb5⟩
            have HB5 := Lib.hid hb5
            clear hb5
            by_cases hq0 : q = 0
            · by_cases ht : ei.t = ej.t
              · have t1 : (ei.t == ej.t) = true := by rw [beq_iff_eq]; exact ht
                have t2 : decide (ei.t = ej.t) = true := decide_eq_true ht
                have u1 : ((q : Int) == 0) = true := by rw [beq_iff_eq]; omega
                have u2 : decide ((q : Int) = 0) = true := decide_eq_true (by omega)
                subst hq0
                go_upto_region 16 with (fail)
                apply wp_region_relH (H := []) 42 [(Sum.inl _ : TT), (Sum.inl _ : TT), (Sum.inl _ : TT), (Sum.inl _ : TT), (Sum.inl _ : TT), (Sum.inl _ : TT), (Sum.inl _ : TT), (Sum.inl _ : TT), (Sum.inl _ : TT), (Sum.inl _ : TT), (Sum.inl _ : TT), (Sum.inl _ : TT), (Sum.inl _ : TT), (Sum.inl _ : TT), (Sum.inl _ : TT), (Sum.inl _ : TT), (Sum.inl _ : TT), (Sum.inl _ : TT), (Sum.inl _ : TT), (Sum.inl _ : TT), (Sum.inl _ : TT), (Sum.inl _ : TT), (Sum.inl _ : TT), (Sum.inl _ : TT), (Sum.inl _ : TT), (Sum.inl _ : TT), (Sum.inl _ : TT), (Sum.inl _ : TT), (Sum.inl _ : TT), (Sum.inl _ : TT), (Sum.inl _ : TT), (Sum.inl _ : TT), (Sum.inl _ : TT), (Sum.inl _ : TT), (Sum.inl _ : TT), (Sum.inl _ : TT), (Sum.inl _ : TT), (Sum.inl _ : TT), (Sum.inl _ : TT), (Sum.inl _ : TT), (Sum.inl _ : TT), (Sum.inl _ : TT)] (by kernel_rfl) (by kernel_rfl) (fun _ _ _ _ _ h => h) rfl
                simp only [List.take_succ_cons, List.take_zero, List.drop_succ_cons, List.drop_zero]
                iterate 42 (apply rel_isS; (intro W hW hf; obtain ⟨x1, x2, x3, y1, y2, y3, z1, z2⟩ := HC.out W (HB5.out.trans (hW.mono HB5.out.size)); go_simp; first | exact ⟨StayS.refl _ _, rfl⟩ | rfl); simp only [Act.put, List.setIfInBounds_toArray, List.set_cons_succ, List.set_cons_zero])
                refine rel_endS ?_
                intro W hW hf
                try simp only [Act.put, List.setIfInBounds_toArray, List.set_cons_succ, List.set_cons_zero]
                have HBW := Lib.hid (HBi.out.trans ((HB5.out.trans (hW.mono HB5.out.size)).mono HBi.out.size))
                clear hW hf
                go_wp2_with fail
                go_roundw
                case rel => exact ⟨i + 1, by omega, by go_num, HBW.out⟩
                case measure => simp [intOf]; omega
              · have t1 : (ei.t == ej.t) = false := by rw [beq_eq_false_iff_ne]; exact ht
                have t2 : decide (ei.t = ej.t) = false := decide_eq_false ht
                have HFb := Lib.hid (HD.out hq0 ht)
                rw [HFb.out] at HF
                subst hq0
                go_upto_region 16 with (fail)
                apply wp_region_relH (H := []) 42 [(Sum.inl _ : TT), (Sum.inl _ : TT), (Sum.inl _ : TT), (Sum.inl _ : TT), (Sum.inl _ : TT), (Sum.inl _ : TT), (Sum.inl _ : TT), (Sum.inl _ : TT), (Sum.inl _ : TT), (Sum.inl _ : TT), (Sum.inl _ : TT), (Sum.inl _ : TT), (Sum.inl _ : TT), (Sum.inl _ : TT), (Sum.inl _ : TT), (Sum.inl _ : TT), (Sum.inl _ : TT), (Sum.inl _ : TT), (Sum.inl _ : TT), (Sum.inl _ : TT), (Sum.inl _ : TT), (Sum.inl _ : TT), (Sum.inl _ : TT), (Sum.inl _ : TT), (Sum.inl _ : TT), (Sum.inl _ : TT), (Sum.inl _ : TT), (Sum.inl _ : TT), (Sum.inl _ : TT), (Sum.inl _ : TT), (Sum.inl _ : TT), (Sum.inl _ : TT), (Sum.inl _ : TT), (Sum.inl _ : TT), (Sum.inl _ : TT), (Sum.inl _ : TT), (Sum.inl _ : TT), (Sum.inl _ : TT), (Sum.inl _ : TT), (Sum.inl _ : TT), (Sum.inl _ : TT), (Sum.inl _ : TT)] (by kernel_rfl) (by kernel_rfl) (fun _ _ _ _ _ h => h) rfl
                simp only [List.take_succ_cons, List.take_zero, List.drop_succ_cons, List.drop_zero]
                iterate 39 (apply rel_isS; (intro W hW hf; obtain ⟨x1, x2, x3, y1, y2, y3, z1, z2⟩ := HC.out W (HB5.out.trans (hW.mono HB5.out.size)); go_simp; first | exact ⟨StayS.refl _ _, rfl⟩ | rfl); simp only [Act.put, List.setIfInBounds_toArray, List.set_cons_succ, List.set_cons_zero])
                apply rel_isS
                · intro W hW hf
                  exact rel_callS hW (by first | rfl | (go_simp; done) | (go_simp; simp)) (by go_simp <;> first | rfl | exact ⟨rfl, rfl⟩ | exact ⟨rfl, rfl, rfl⟩) ((HF.out W).mono fun e w'' h => ⟨_, h.1, h.2, rfl⟩)
                simp only [Act.put, List.setIfInBounds_toArray, List.set_cons_succ, List.set_cons_zero]
                iterate 2 (apply rel_isS; (intro W hW hf; go_simp; first | exact ⟨StayS.refl _ _, rfl⟩ | rfl); simp only [Act.put, List.setIfInBounds_toArray, List.set_cons_succ, List.set_cons_zero])
                refine rel_endS ?_
                intro W hW hf
                try simp only [Act.put, List.setIfInBounds_toArray, List.set_cons_succ, List.set_cons_zero]
                have HBW := Lib.hid (HBi.out.trans ((HB5.out.trans (hW.mono HB5.out.size)).mono HBi.out.size))
                clear hW hf
                go_wp2_with fail
                go_roundw
                case rel => exact ⟨i + 1, by omega, by go_num, HBW.out⟩
                case measure => simp [intOf]; omega
            · have u1 : ((q : Int) == 0) = false := by rw [beq_eq_false_iff_ne]; omega
              have u2 : decide ((q : Int) = 0) = false := decide_eq_false (by omega)
              have u3 : decide (q = 0) = false := decide_eq_false hq0
              have u4 : (q == 0) = false := by rw [beq_eq_false_iff_ne]; exact hq0
              go_upto_region 16 with (fail)
              apply wp_region_relH (H := []) 42 [(Sum.inl _ : TT), (Sum.inl _ : TT), (Sum.inl _ : TT), (Sum.inl _ : TT), (Sum.inl _ : TT), (Sum.inl _ : TT), (Sum.inl _ : TT), (Sum.inl _ : TT), (Sum.inl _ : TT), (Sum.inl _ : TT), (Sum.inl _ : TT), (Sum.inl _ : TT), (Sum.inl _ : TT), (Sum.inl _ : TT), (Sum.inl _ : TT), (Sum.inl _ : TT), (Sum.inl _ : TT), (Sum.inl _ : TT), (Sum.inl _ : TT), (Sum.inl _ : TT), (Sum.inl _ : TT), (Sum.inl _ : TT), (Sum.inl _ : TT), (Sum.inl _ : TT), (Sum.inl _ : TT), (Sum.inl _ : TT), (Sum.inl _ : TT), (Sum.inl _ : TT), (Sum.inl _ : TT), (Sum.inl _ : TT), (Sum.inl _ : TT), (Sum.inl _ : TT), (Sum.inl _ : TT), (Sum.inl _ : TT), (Sum.inl _ : TT), (Sum.inl _ : TT), (Sum.inl _ : TT), (Sum.inl _ : TT), (Sum.inl _ : TT), (Sum.inl _ : TT), (Sum.inl _ : TT), (Sum.inl _ : TT)] (by kernel_rfl) (by kernel_rfl) (fun _ _ _ _ _ h => h) rfl
              simp only [List.take_succ_cons, List.take_zero, List.drop_succ_cons, List.drop_zero]
              iterate 42 (apply rel_isS; (intro W hW hf; obtain ⟨x1, x2, x3, y1, y2, y3, z1, z2⟩ := HC.out W (HB5.out.trans (hW.mono HB5.out.size)); go_simp; first | exact ⟨StayS.refl _ _, rfl⟩ | rfl); simp only [Act.put, List.setIfInBounds_toArray, List.set_cons_succ, List.set_cons_zero])
              refine rel_endS ?_
              intro W hW hf
              try simp only [Act.put, List.setIfInBounds_toArray, List.set_cons_succ, List.set_cons_zero]
              have HBW := Lib.hid (HBi.out.trans ((HB5.out.trans (hW.mono HB5.out.size)).mono HBi.out.size))
              clear hW hf
              go_wp2_with fail
              go_roundw
              case rel => exact ⟨i + 1, by omega, by go_num, HBW.out⟩
              case measure => simp [intOf]; omega
          · obtain rfl : i = j := by omega
            go_wp2_with fail
            go_roundw
            case rel => exact ⟨i + 1, by omega, by go_num, HBi.out⟩
            case measure => simp [intOf]; omega
      · obtain rfl : j = m := by omega
        go_wp2_with fail
        go_ret
        exact ⟨rfl, HBw.out.trans (HB.out.mono HBw.out.size)⟩
  · have HCL := Lib.hid (fun W (h : Below w1.heap.size w1 W) => clocks_bad l m HM.out (by omega) n hw A cap hcap w1.heap.size W (HA1.out.below h) h.size)
    have HRA := Lib.hid hRA
    clear hRA
    have hx : ((wrongE l n : Nat) : Int) = 0 → False := by omega
    have hx2 : decide (((wrongE l n : Nat) : Int) = 0) = false := by rw [decide_eq_false_iff_not]; exact hx
    have hx3 : (((wrongE l n : Nat) : Int) == 0) = false := by rw [beq_eq_false_iff_ne]; exact hx
    generalize wrongE l n = er at *
    clear hw hx
    go_wp2_with fail
    with_reducible refine HRA.out.mono ?_
    rintro r w2 ⟨hb2, v, rfl, ho2⟩
    obtain ⟨P, cp, rfl, _, _, _⟩ := own_rdS ho2
    have HB2 := Lib.hid hb2
    have HC2 := Lib.hid (HCL.out w2 hb2)
    clear hb2 ho2 HCL HRA
    go_wp2_with fail
    with_reducible refine HC2.out.mono ?_
    rintro r w3 ⟨rfl, hb3⟩
    have HB3 := Lib.hid (HB2.out.trans (hb3.mono HB2.out.size))
    clear hb3
    go_wp2_with fail
    go_ret
    exact ⟨rfl, HB1.out.trans (HB3.out.mono HB1.out.size)⟩
end Go.Proofs.Ytkcpoebepiipoaa
