/- RaceGuards: the law. -/
import Derived.Test.YtkcpoebepiipoaaGk
set_option linter.unusedSimpArgs false
set_option linter.unusedVariables false
namespace Go.Proofs.Ytkcpoebepiipoaa
open Go.RowKit

theorem mem_upTo {l : List Ev} {n : Nat} {p : Nat × Nat} (h : p ∈ upTo l n) : p.1 < p.2 ∧ p.2 < n ∧ unl2 l p.1 p.2 = true := by
  obtain ⟨i, j⟩ := p
  unfold upTo at h
  obtain ⟨j', h1, h2⟩ := List.mem_flatMap.1 h
  unfold upRow at h2
  obtain ⟨i', h3, h4⟩ := List.mem_map.1 h2
  obtain ⟨h5, h6⟩ := List.mem_filter.1 h3
  injection h4 with e1 e2
  subst e1 e2
  exact ⟨by simpa using h5, by simpa using h1, h6⟩
theorem guard_data (zs : List Int) (n k : Nat) : dataL (gl zs n k) n = [] := by
  unfold dataL
  split
  · unfold sifted
    rw [List.filter_eq_nil_iff]
    rintro ⟨i, j⟩ hp
    obtain ⟨h1, h2, h3⟩ := mem_upTo hp
    have ht : (ev (gl zs n k) i).t ≠ (ev (gl zs n k) j).t := by simpa [unl2] using h3
    have := guard_no ((List.range k).map (gx zs n)) i j h1 h2 ht
    show ¬ dataB (gl zs n k) i j = true
    rw [show dataB (gl zs n k) i j = false from this]
    simp
  · rfl
theorem guard_wrong (zs : List Int) (n k : Nat) (hn1 : 1 ≤ n) (hn2 : n ≤ 16) (hk : k ≤ 40) : wrongE (gl zs n k) n = 0 := by
  unfold wrongE
  rw [if_neg (by omega), if_neg (by have := gl_len zs n k; omega)]
  rw [badL_no (fun i hi => ?_)]
  · rfl
  · have := guard_t ((List.range k).map (gx zs n)) n (fun x hx => by
      obtain ⟨i, _, rfl⟩ := List.mem_map.1 hx
      exact (gx_lt zs n hn1 i).1) i hi
    unfold badE
    show (decide ((ev (gl zs n k) i).t < 0) || decide ((n : Int) ≤ (ev (gl zs n k) i).t)) = false
    rw [decide_eq_false (by have := this.1; show ¬ (ev (gl zs n k) i).t < 0; unfold gl; omega), decide_eq_false (by have := this.2; show ¬ (n : Int) ≤ (ev (gl zs n k) i).t; unfold gl; omega)]
    rfl
set_option maxRecDepth 100000 in
set_option maxHeartbeats 4000000 in
theorem guards_any (zs : List Int) (A : Option Addr) (cap : Nat) (n : Int) (w : World) (hA : Zs w w.heap.size A zs) (hA0 : A = none → zs.length = 0) (hl : zs.length ≤ 140737488351232) (hcap : zs.length ≤ cap) (hz : Zw zs) (hn : (-9223372036854775808 : Int) ≤ n ∧ n ≤ 9223372036854775807) :
    Calls Try.prog 6 #[.slice A zs.length cap, .int .i64 n] w fun e w' => e = .returned (.bool true) ∧ Below w.heap.size w w' := by
  obtain ⟨m, hm⟩ : ∃ m, m = zs.length := ⟨_, rfl⟩
  rw [← hm] at hl ⊢
  have HA := Lib.hid hA; have HM := Lib.hid hm; have HZ := Lib.hid hz
  clear hA hA0 hm hcap hz
  by_cases hgood : m ≤ 40 ∧ 1 ≤ n ∧ n ≤ 16
  · obtain ⟨h1, h2, h3⟩ := hgood
    obtain ⟨nn, rfl⟩ := Int.eq_ofNat_of_zero_le (show 0 ≤ n by omega)
    have d1 : decide ((40 : Int) < m) = false := decide_eq_false (by omega)
    have d2 : decide ((nn : Int) < 1) = false := decide_eq_false (by omega)
    have d3 : decide ((16 : Int) < nn) = false := decide_eq_false (by omega)
    have HW := Lib.hid (guard_wrong zs nn m (by omega) (by omega) h1)
    have HD := Lib.hid (guard_data zs nn m)
    have hlen : (gl zs nn m).length ≤ 200 := by have := gl_len zs nn m; omega
    have HG := Lib.hid (fun W (h : Below w.heap.size w W) => guarded_any zs m HM.out h1 nn (by omega) (by omega) HZ.out A cap w.heap.size W (HA.out.below h) h.size)
    generalize gl zs nn m = L at *
    go_enter Try.func6, Try.ntmps6
    go_wp2_with fail
    refine (known_any w).mono ?_
    rintro r w1 ⟨rfl, hb1⟩
    have HG1 := Lib.hid (HG.out w1 hb1)
    have HB1 := Lib.hid hb1
    clear hb1 HG
    go_wp2_with fail
    with_reducible refine HG1.out.mono ?_
    rintro r w2 ⟨v, rfl, ho, hb2⟩
    have HB2 := Lib.hid (HB1.out.trans (hb2.mono HB1.out.size))
    obtain ⟨A2, c2, rfl, hr2, _, hc2⟩ := own_rdS ho
    have HE2 := Lib.hid (Evs.of_rd hr2)
    have HC2 := Lib.hid hc2
    clear ho hb2 hr2 hc2
    obtain ⟨q, hq⟩ : ∃ q, q = L.length := ⟨_, rfl⟩
    rw [← hq] at HC2 hlen ⊢
    have HQ := Lib.hid hq
    clear hq
    have HDA := Lib.hid (datas_any L q HQ.out (by omega) nn A2 c2 HC2.out w2.heap.size w2 HE2.out (Nat.le_refl _))
    rw [HW.out, HD.out] at HDA
    go_wp2_with fail
    with_reducible refine HDA.out.mono ?_
    rintro r w3 ⟨hb3, v3, rfl, ho3⟩
    have HB3 := Lib.hid (HB2.out.trans (hb3.mono HB2.out.size))
    obtain ⟨A3, c3, rfl, _, _, _⟩ := own_rdS ho3
    clear hb3 ho3
    simp only [List.length_nil]
    go_wp2_with fail
    go_ret
    exact ⟨rfl, HB3.out⟩
  · have hbad : (40 : Int) < m ∨ n < 1 ∨ 16 < n := by omega
    by_cases e1 : (40 : Int) < m
    all_goals by_cases e2 : n < 1
    all_goals
      have d1 : decide ((40 : Int) < m) = decide ((40 : Int) < m) := rfl
      go_enter Try.func6, Try.ntmps6
      go_wp2_with fail
      refine (known_any w).mono ?_
      rintro r w1 ⟨rfl, hb1⟩
      have HB1 := Lib.hid hb1
      clear hb1
      go_wp2_with fail
      go_ret
      exact ⟨rfl, HB1.out⟩
end Go.Proofs.Ytkcpoebepiipoaa
