/- norm.Equivalent. -/
import Derived.Test.YtaalinhkikmfaaaMg8
import Derived.Test.YtaalinhkikmfaaaEd
set_option linter.unusedSimpArgs false
set_option linter.unusedVariables false
namespace Go.Proofs.Ytaalinhkikmfaaa
open Go.RowKit

def eqCode (la lb : List Ev) (n : Int) : Nat := if wrongE la n ≠ 0 then wrongE la n else wrongE lb n
def eqAns (la lb : List Ev) (n : Int) : Bool := decide (eqCode la lb n = 0) && decide (leastE la = leastE lb)
theorem leastX_lt (l : List Ev) : ∀ x ∈ leastX l, x < l.length := (leastX_gr l).dn.lt
set_option maxRecDepth 100000 in
set_option maxHeartbeats 4000000 in
theorem equiv_any (la lb : List Ev) (p q : Nat) (hp : p = la.length) (hq : q = lb.length) (hpl : p ≤ 4611686018427387904) (hql : q ≤ 4611686018427387904) (n : Int) (A A' : Option Addr) (c c' : Nat) (hpc : p ≤ c) (hqc : q ≤ c') (w : World) (hA : Evs w w.heap.size A la) (hA' : Evs w w.heap.size A' lb) :
    Calls Try.prog 14 #[.slice A p c, .slice A' q c', .int .i64 n] w fun e w' => e = .returned (.tuple #[.bool (eqAns la lb n), .int .i64 (eqCode la lb n : Nat)]) ∧ Below w.heap.size w w' := by
  have HA := Lib.hid hA; have HA' := Lib.hid hA'; have HP := Lib.hid hp; have HQ := Lib.hid hq
  have HL1 := Lib.hid (least_any la p hp hpl n A c hpc w hA)
  clear hA hA' hp hq
  go_enter Try.func14, Try.ntmps14
  go_wp2_with fail
  with_reducible refine HL1.out.mono ?_
  rintro e w1 ⟨b1, hc⟩
  have B1 := Lib.hid b1
  clear b1 HL1
  rcases hc with ⟨hw, rfl⟩ | ⟨hw, v1, rfl, o1, _⟩
  · have hn0 : ((wrongE la n : Nat) : Int) ≠ 0 := by omega
    have d0 : (((wrongE la n : Nat) : Int) != 0) = true := by rw [bne_iff_ne]; exact hn0
    have HC : Hid (eqCode la lb n = wrongE la n ∧ eqAns la lb n = false) := Lib.hid (by
      have : eqCode la lb n = wrongE la n := by unfold eqCode; rw [if_pos hw]
      refine ⟨this, ?_⟩
      unfold eqAns
      rw [this, decide_eq_false hw]; rfl)
    generalize wrongE la n = x at *
    clear hw hn0
    go_wp2_with fail
    go_ret2
    exact ⟨by rw [HC.out.1, HC.out.2]; rfl, B1.out⟩
  · have HW1 := Lib.hid hw
    rw [← HP.out] at o1
    obtain ⟨A1, c1, rfl, r1, _, _⟩ := own_rd o1
    have R1 := Lib.hid r1
    have hp10 : p ≤ 1024 := by rw [HP.out]; exact (wrong_ok hw).2.2.1
    have HL2 := Lib.hid (least_any lb q HQ.out hql n A' c' hqc w1 ((HA'.out.below B1.out).more B1.out.size))
    clear o1 r1 hw
    go_wp2_with fail
    with_reducible refine HL2.out.mono ?_
    rintro e w2 ⟨b2, hc⟩
    have B2 := Lib.hid b2
    have B02 := Lib.hid (B1.out.trans (b2.mono B1.out.size))
    clear b2 HL2
    rcases hc with ⟨hw, rfl⟩ | ⟨hw, v2, rfl, o2, _⟩
    · have hn0 : ((wrongE lb n : Nat) : Int) ≠ 0 := by omega
      have d0 : (((wrongE lb n : Nat) : Int) != 0) = true := by rw [bne_iff_ne]; exact hn0
      have HC : Hid (eqCode la lb n = wrongE lb n ∧ eqAns la lb n = false) := Lib.hid (by
        have : eqCode la lb n = wrongE lb n := by unfold eqCode; rw [if_neg (fun h => h HW1.out)]
        refine ⟨this, ?_⟩
        unfold eqAns
        rw [this, decide_eq_false hw]; rfl)
      generalize wrongE lb n = x at *
      clear hw hn0
      go_wp2_with fail
      go_ret2
      exact ⟨by rw [HC.out.1, HC.out.2]; rfl, B02.out⟩
    · have HC : Hid (eqCode la lb n = 0 ∧ eqAns la lb n = decide (leastE la = leastE lb)) := Lib.hid (by
        have : eqCode la lb n = 0 := by unfold eqCode; rw [if_neg (fun h => h HW1.out), hw]
        refine ⟨this, ?_⟩
        unfold eqAns
        rw [this]; rfl)
      rw [← HQ.out] at o2
      obtain ⟨A2, c2, rfl, r2, _, _⟩ := own_rd o2
      have R2 := Lib.hid r2
      have hq10 : q ≤ 1024 := by rw [HQ.out]; exact (wrong_ok hw).2.2.1
      have HT1 := Lib.hid (taken_any la p HP.out (by omega) A c (leastX la) p (by rw [leastX_len, HP.out]) (by omega) A1 c1 w2.heap.size w2 ((HA.out.below B02.out).more B02.out.size) ((R1.out.below B2.out).more B2.out.size) (Nat.le_refl _) (fun x hx => by rw [HP.out]; exact leastX_lt la x hx))
      clear o2 r2 hw
      go_wp2_with fail
      with_reducible refine HT1.out.mono ?_
      rintro e w3 ⟨v3, rfl, o3, b3⟩
      have O3 := Lib.hid o3; have B3 := Lib.hid b3
      have B03 := Lib.hid (B02.out.trans (b3.mono B02.out.size))
      obtain ⟨A3, c3, rfl, r3, _, _⟩ := own_rdS o3
      have HT2 := Lib.hid (taken_any lb q HQ.out (by omega) A' c' (leastX lb) q (by rw [leastX_len, HQ.out]) (by omega) A2 c2 w3.heap.size w3 ((HA'.out.below B03.out).more B03.out.size) ((R2.out.below b3).more b3.size) (Nat.le_refl _) (fun x hx => by rw [HQ.out]; exact leastX_lt lb x hx))
      have R3 := Lib.hid r3
      clear o3 b3 HT1 r3
      go_wp2_with fail
      with_reducible refine HT2.out.mono ?_
      rintro e w4 ⟨v4, rfl, o4, b4⟩
      have B04 := Lib.hid (B03.out.trans (b4.mono B03.out.size))
      obtain ⟨A4, c4, rfl, r4, _, _⟩ := own_rdS o4
      have HE := Lib.hid (equal_evs (leastE la) (leastE lb) p q (by unfold leastE; rw [List.length_map, leastX_len, HP.out]) (by unfold leastE; rw [List.length_map, leastX_len, HQ.out]) (by omega) (by omega) A3 A4 c3 c4 w4.heap.size w4 (.of_rd ((R3.out.below b4).more b4.size)) (.of_rd r4) (Nat.le_refl _))
      clear o4 b4 r4 HT2
      go_wp2_with fail
      with_reducible refine HE.out.mono ?_
      rintro e w5 ⟨rfl, b5⟩
      have B05 := Lib.hid (B04.out.trans (b5.mono B04.out.size))
      clear b5 HE
      go_wp2_with fail
      go_ret2
      exact ⟨by rw [HC.out.1, HC.out.2]; rfl, B05.out⟩
end Go.Proofs.Ytaalinhkikmfaaa
