/- clock.Past; ClockKnown. -/
import Derived.Test.YtmllmfjdbfikoaaCr
set_option linter.unusedSimpArgs false
set_option linter.unusedVariables false
namespace Go.Proofs.Ytmllmfjdbfikoaa
open Go.RowKit

def sel (l : List Ev) (j k : Nat) : List Nat := (List.range k).filter fun i => aheadB (clk l) l i j
theorem sel_succ (l : List Ev) (j k : Nat) : sel l j (k + 1) = if aheadB (clk l) l k j then sel l j k ++ [k] else sel l j k := by
  unfold sel
  rw [List.range_succ, List.filter_append]
  by_cases h : aheadB (clk l) l k j <;> simp [h]
theorem sel_le (l : List Ev) (j k : Nat) : (sel l j k).length ≤ k := by unfold sel; exact Nat.le_trans (List.length_filter_le _ _) (by simp)
def nums (l : List Nat) : List Value := l.map fun (n : Nat) => Value.int .i64 (n : Int)
theorem ints_of {w : World} {B n : Nat} {v : Value} {xs : List Nat} (h : w.ownsRow B 3 1 v n (nums xs)) (hn : xs.length = n) : ∃ A c, v = .slice A n c ∧ Ints w w.heap.size A n (fun t => xs.getD t 0) := by
  obtain ⟨A, c, rfl, hr, _, _⟩ := own_rd h
  refine ⟨A, c, rfl, fun t ht => hr t _ ?_⟩
  unfold nums
  rw [List.getElem?_map, List.getElem?_eq_getElem (by omega)]
  simp [List.getD_eq_getElem?_getD, List.getElem?_eq_getElem (show t < xs.length by omega)]
set_option maxRecDepth 100000 in
set_option maxHeartbeats 4000000 in
theorem past_any (l : List Ev) (m : Nat) (hm : m = l.length) (hl : m ≤ 1024) (n : Nat) (hw : wrongE l n = 0) (j : Nat) (hj : j < m) (A : Option Addr) (cap : Nat) (hcap : m ≤ cap) (w : World) (hA : Evs w w.heap.size A l) :
    Calls Try.prog 7 #[.slice A m cap, .int .i64 n, .int .i64 j] w fun r w' => ∃ A' c, r = .returned (.tuple #[.slice A' (sel l j j).length c, .int .i64 0]) ∧ Ints w' w'.heap.size A' (sel l j j).length (fun t => (sel l j j).getD t 0) ∧ Below w.heap.size w w' := by
  have HA := Lib.hid hA; have HM := Lib.hid hm
  obtain ⟨x1, x2, x3, x4⟩ := wrong_ok hw
  have HG := Lib.hid (fun i (hi : i < m) => good_at x4 (show i < l.length by rw [← hm]; exact hi))
  have HC := Lib.hid (clocks_at l m hm (by omega) n hw A cap hcap _ w hA (Nat.le_refl _))
  clear hA hm hw x3 x4
  have d1 : decide ((j : Int) < 0) = false := by rw [decide_eq_false_iff_not]; omega
  have d2 : decide (m ≤ j) = false := by rw [decide_eq_false_iff_not]; omega
  go_enter Try.func7, Try.ntmps7
  go_wp2_with fail
  with_reducible refine HC.out.mono ?_
  rintro r w1 ⟨Ac, cc, rfl, hc, hb⟩
  have HK := Lib.hid hc; have HB := Lib.hid hb
  clear hc hb HC
  go_wp2_with fail
  go_loopw [10, 34] (fun ov iv wr => ∃ k : Nat, k ≤ j ∧ iv = .int .i64 k ∧ wr.ownsRow w1.heap.size 3 1 ov (sel l j k).length (nums (sel l j k)) ∧ Below w1.heap.size w1 wr) (fun _ iv _ => j - (intOf iv).toNat)
  case atStart => exact ⟨0, by omega, rfl, World.ownsRow_nil _ _ _ _, Below.refl _ _⟩
  case round =>
    obtain ⟨k, hk, rfl, ho, hb⟩ := hrel
    have HO := Lib.hid ho; have HB2 := Lib.hid hb
    clear ho hb
    by_cases hkj : k < j
    · have HX := Lib.hid (HB.out.trans (HB2.out.mono HB.out.size))
      have HAH := Lib.hid (ahead_any l (by have := HM.out; omega) n (by omega) (fun i hi => HG.out i (by have := HM.out; omega)) (clk l) k j (by have := HM.out; omega) (by have := HM.out; omega) A Ac cap cc w.heap.size w1.heap.size wr (HA.out.below HX.out) HX.out.size (by rw [← HM.out]; exact HK.out.below HB2.out) HB2.out.size)
      rw [← HM.out] at HAH
      have HS := Lib.hid (sel_succ l j k)
      have hsl := sel_le l j k
      generalize aheadB (clk l) l k j = r at *
      generalize hsz : (sel l j k).length = z at *
      go_wp2_with fail
      with_reducible refine HAH.out.mono ?_
      rintro e w3 ⟨rfl, hb3⟩
      have HO3 := Lib.hid (own_below HO.out hb3)
      have HB3 := Lib.hid (HB2.out.trans (hb3.mono HB2.out.size))
      clear hb3
      cases r
      · go_wp2_with fail
        go_roundw
        case rel => exact ⟨k + 1, by omega, by go_num, by rw [HS.out]; simpa [hsz] using HO3.out, HB3.out⟩
        case measure => simp [intOf]; omega
      · go_wp2_with (at_builtin; refine wpList_append_one0 EI rfl (.tmp 46) (.tmp 48) rfl w1.heap.size (.int .i64 k) rfl _ z (nums (sel l j k)) rfl HO3.out rfl (by omega) (by omega) w1 (Nat.le_refl _) HB3.out ?_; intro v5 w5 h2 h3 h4 h5; clear h4 h5; have O5 := Lib.hid h2; have HB5 := Lib.hid h3; clear h2 h3)
        go_roundw
        case rel => exact ⟨k + 1, by omega, by go_num, by rw [HS.out]; simpa [hsz, nums] using O5.out, HB5.out⟩
        case measure => simp [intOf]; omega
    · obtain rfl : k = j := by omega
      obtain ⟨A', c', rfl, hi⟩ := ints_of HO.out rfl
      have HI := Lib.hid hi
      clear hi
      go_wp2_with fail
      go_ret2
      exact ⟨A', c', rfl, HI.out, HB.out.trans (HB2.out.mono HB.out.size)⟩
end Go.Proofs.Ytmllmfjdbfikoaa
