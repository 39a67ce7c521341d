/- clocks: all of the same length. -/
import Derived.Test.YtmllmfjdbfikoaaCg
set_option linter.unusedSimpArgs false
set_option linter.unusedVariables false
namespace Go.Proofs.Ytmllmfjdbfikoaa
open Go.RowKit

set_option maxHeartbeats 1000000 in
theorem next1_any (A : Option Addr) (n cap : Nat) (g : Nat) (w : World) (hg : w.cell? ⟨g, 0, none⟩ = some (.int .i64 n)) :
    Calls Try.prog 22 #[.slice A n cap, .pointer (some ⟨g, 0, none⟩)] w fun e' w' => e' = .returned (.bool false) ∧ w' = w := by
  go_enter Try.func22, Try.ntmps22
  go_wp2_with fail
  go_ret
  exact ⟨rfl, rfl⟩
set_option maxRecDepth 100000 in
set_option maxHeartbeats 2000000 in
theorem index_next (m : Nat) (hm : m ≤ 4611686018427387904) (n : Nat) (c : Nat → Nat → Nat) (g : Nat) (A : Option Addr) (cap B : Nat) (w : World) (hA : Clk w B A m n c) (hg : w.cell? ⟨g, 0, none⟩ = some (.int .i64 n)) :
    Calls Try.prog 26 #[.slice A m cap, .func (.func 22) #[] #[.pointer (some ⟨g, 0, none⟩)]] w fun e w' => e = .returned (.int .i64 (-1)) ∧ w' = w := by
  have HA := Lib.hid hA; have HG := Lib.hid hg
  clear hA hg
  go_enter Try.func26, Try.ntmps26
  go_wp2_with fail
  go_loopw [8] (fun i wr => ∃ k : Nat, k ≤ m ∧ i = .int .i64 k ∧ wr = w) (fun i _ => m - (intOf i).toNat)
  case atStart => exact ⟨0, by omega, rfl, rfl⟩
  case round =>
    obtain ⟨k, hk, rfl, rfl⟩ := hrel
    by_cases hlt : k < m
    · obtain ⟨b, o, bi, oi, ci, rfl, _, _, h1, _⟩ := HA.out k hlt
      have Hn := Lib.hid (next1_any (some ⟨bi, oi, none⟩) n ci g wr HG.out)
      go_wp2_with fail
      refine Hn.out.mono ?_
      rintro e' w1 ⟨rfl, rfl⟩
      go_wp2_with fail
      go_roundw
      case rel => exact ⟨k + 1, by omega, by go_num, trivial⟩
      case measure => simp [intOf]; omega
    · obtain rfl : k = m := by omega
      go_wp2_with fail
      go_ret
      exact ⟨rfl, rfl⟩
set_option maxRecDepth 100000 in
set_option maxHeartbeats 2000000 in
theorem contains_next (m : Nat) (hm : m ≤ 4611686018427387904) (n : Nat) (c : Nat → Nat → Nat) (g : Nat) (A : Option Addr) (cap B : Nat) (w : World) (hA : Clk w B A m n c) (hg : w.cell? ⟨g, 0, none⟩ = some (.int .i64 n)) :
    Calls Try.prog 21 #[.slice A m cap, .func (.func 22) #[] #[.pointer (some ⟨g, 0, none⟩)]] w fun e w' => e = .returned (.bool false) ∧ w' = w := by
  have Hi := Lib.hid (index_next m hm n c g A cap B w hA hg)
  clear hA hg
  go_enter Try.func21, Try.ntmps21
  go_wp2_with fail
  refine Hi.out.mono ?_
  rintro e w1 ⟨rfl, rfl⟩
  go_wp2_with fail
  go_ret
  exact ⟨rfl, rfl⟩
end Go.Proofs.Ytmllmfjdbfikoaa
