/- what the laws of ch. 13 call: Pick, ahead, orders. -/
import Derived.Test.YtmllmfjdbfikoaaCj
set_option linter.unusedSimpArgs false
set_option linter.unusedVariables false
namespace Go.Proofs.Ytmllmfjdbfikoaa
open Go.RowKit

def pick (x n : Int) : Int := if n < 1 then 0 else x % n
theorem tmod_emod (x n : Int) (hn : 1 ≤ n) : (0 ≤ x.tmod n ∧ x.tmod n < n ∧ x.tmod n = x % n) ∨ (-n < x.tmod n ∧ x.tmod n < 0 ∧ x.tmod n + n = x % n) := by
  have h1 := Int.emod_nonneg x (show n ≠ 0 by omega)
  have h2 := Int.emod_lt_of_pos x (show 0 < n by omega)
  have h3 := Int.tmod_eq_emod (a := x) (b := n)
  split at h3
  · exact .inl ⟨by omega, by omega, by omega⟩
  · have e : (n.natAbs : Int) = n := by omega
    rw [e] at h3
    by_cases hz : x % n = 0
    · have hd : n ∣ x := Int.dvd_of_emod_eq_zero hz
      rename_i hh
      exact absurd (Or.inr hd) hh
    · exact .inr ⟨by omega, by omega, by omega⟩
set_option maxHeartbeats 400000 in
theorem pick_any (x n : Int) (hx : (-9223372036854775808 : Int) ≤ x ∧ x ≤ 9223372036854775807) (hn : n ≤ 4611686018427387904) (hn2 : -4611686018427387904 ≤ n) (w : World) : Calls Try.prog 14 #[.int .i64 x, .int .i64 n] w fun e w' => e = .returned (.int .i64 (pick x n)) ∧ w = w' := by
  by_cases h1 : n < 1
  · have Hp : Hid (pick x n = 0) := Lib.hid (if_pos h1)
    go_enter Try.func14, Try.ntmps14
    go_wp2_with fail
    go_ret
    exact ⟨by rw [Hp.out]; rfl, rfl⟩
  · have Hp : Hid (pick x n = x % n) := Lib.hid (if_neg h1)
    have ht := tmod_emod x n (by omega)
    have hz : (n == 0) = false := by rw [beq_eq_false_iff_ne]; omega
    rcases ht with ⟨h2, h3, h4⟩ | ⟨h2, h3, h4⟩
    · have H4 := Lib.hid h4
      clear h4
      go_enter Try.func14, Try.ntmps14
      go_wp2_with fail
      go_ret
      exact ⟨by rw [Hp.out, ← H4.out]; rfl, rfl⟩
    · have H4 := Lib.hid h4
      clear h4
      go_enter Try.func14, Try.ntmps14
      go_wp2_with fail
      go_ret
      exact ⟨by rw [Hp.out, ← H4.out]; rfl, rfl⟩
set_option maxRecDepth 100000 in
set_option maxHeartbeats 4000000 in
theorem ahead_law (l : List Ev) (m : Nat) (hm : m = l.length) (hl : m ≤ 1000000) (n : Nat) (hn : n ≤ 1000) (hgood : ∀ i, i < m → 0 ≤ (ev l i).t ∧ (ev l i).t < n) (c : Nat → Nat → Nat) (i j : Nat) (hi : i < m) (hj : j < m) (A Ac : Option Addr) (cl cc B Bc : Nat) (w : World)
    (hA : Evs w B A l) (hB : B ≤ w.heap.size) (hc : Clk w Bc Ac m n c) (hBc : Bc ≤ w.heap.size) :
    Calls Try.prog 9 #[.slice Ac m cc, .slice A m cl, .int .i64 i, .int .i64 j] w fun e w' => e = .returned (.bool (aheadB c l i j)) ∧ Below w.heap.size w w' := by
  have Ha := Lib.hid (ahead_any l (by omega) n hn (fun i h => hgood i (by omega)) c i j (by omega) (by omega) A Ac cl cc B Bc w hA hB (hm ▸ hc) hBc)
  rw [← hm] at Ha
  clear hA hc hgood hm
  generalize aheadB c l i j = r at *
  go_enter Try.func9, Try.ntmps9
  go_wp2_with fail
  with_reducible refine Ha.out.mono ?_
  rintro e w1 ⟨rfl, hb⟩
  have Hb := Lib.hid hb
  clear hb
  cases r
  all_goals
    go_wp2_with fail
    go_ret
    exact ⟨rfl, Hb.out⟩
theorem aheadB_hb (l : List Ev) (i j : Nat) (h : 0 ≤ (ev l i).t) : aheadB (clk l) l i j = hb l i j := by
  unfold aheadB
  by_cases hij : i < j
  · have h1 := clk_hb l i j (tn l i) (by unfold tn; omega) hij
    rw [decide_eq_true hij, Bool.true_and]
    rw [Bool.eq_iff_iff, decide_eq_true_iff]
    exact h1.symm
  · rw [decide_eq_false hij, Bool.false_and]
    cases e : hb l i j with
    | false => rfl
    | true => exact absurd (hb_lt e) hij
end Go.Proofs.Ytmllmfjdbfikoaa
