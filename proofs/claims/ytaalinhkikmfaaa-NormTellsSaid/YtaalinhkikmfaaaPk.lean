/- assizekit.Pick. -/
import Derived.Test.YtaalinhkikmfaaaCa
set_option linter.unusedSimpArgs false
set_option linter.unusedVariables false
namespace Go.Proofs.Ytaalinhkikmfaaa
open Go.RowKit

def pick (x n : Int) : Int := if n < 1 then 0 else x % n
theorem tmod_emod (x n : Int) (hn : 1 ≤ n) : (0 ≤ x.tmod n ∧ x.tmod n < n ∧ x.tmod n = x % n) ∨ (-n < x.tmod n ∧ x.tmod n < 0 ∧ x.tmod n + n = x % n) := by
  have h1 := Int.emod_nonneg x (show n ≠ 0 by omega)
  have h2 := Int.emod_lt_of_pos x (show 0 < n by omega)
  have h3 := Int.tmod_eq_emod (a := x) (b := n)
  split at h3
  · exact .inl ⟨by omega, by omega, by omega⟩
  · have e : (n.natAbs : Int) = n := by omega
    rw [e] at h3
    by_cases hz : x % n = 0
    · have hd : n ∣ x := Int.dvd_of_emod_eq_zero hz
      rename_i hh
      exact absurd (Or.inr hd) hh
    · exact .inr ⟨by omega, by omega, by omega⟩
set_option maxHeartbeats 400000 in
theorem pick_any (x n : Int) (hx : (-9223372036854775808 : Int) ≤ x ∧ x ≤ 9223372036854775807) (hn : n ≤ 4611686018427387904) (hn2 : -4611686018427387904 ≤ n) (w : World) : Calls Try.prog 29 #[.int .i64 x, .int .i64 n] w fun e w' => e = .returned (.int .i64 (pick x n)) ∧ w = w' := by
  by_cases h1 : n < 1
  · have Hp : Hid (pick x n = 0) := Lib.hid (if_pos h1)
    go_enter Try.func29, Try.ntmps29
    go_wp2_with fail
    go_ret
    exact ⟨by rw [Hp.out]; rfl, rfl⟩
  · have Hp : Hid (pick x n = x % n) := Lib.hid (if_neg h1)
    have ht := tmod_emod x n (by omega)
    have hz : (n == 0) = false := by rw [beq_eq_false_iff_ne]; omega
    rcases ht with ⟨h2, h3, h4⟩ | ⟨h2, h3, h4⟩
    · have H4 := Lib.hid h4
      clear h4
      go_enter Try.func29, Try.ntmps29
      go_wp2_with fail
      go_ret
      exact ⟨by rw [Hp.out, ← H4.out]; rfl, rfl⟩
    · have H4 := Lib.hid h4
      clear h4
      go_enter Try.func29, Try.ntmps29
      go_wp2_with fail
      go_ret
      exact ⟨by rw [Hp.out, ← H4.out]; rfl, rfl⟩
end Go.Proofs.Ytaalinhkikmfaaa
