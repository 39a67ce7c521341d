/- names of files: disk.named. -/
import Derived.Test.YtjbpgjfnccmdaaaMb
set_option linter.unusedSimpArgs false
set_option linter.unusedVariables false
namespace Go.Proofs.Ytjbpgjfnccmdaaa
open Go.RowKit

set_option maxRecDepth 100000 in
set_option maxHeartbeats 2000000 in
theorem named1_any (c : UInt8) (w : World) : Calls Try.prog 77 #[.int .u8 c.toNat] w fun e w' => e = .returned (.bool (!okc c)) ∧ w' = w := by
  have hz : ∀ z, (decide (97 ≤ c.toNat ∧ c.toNat ≤ 122) || decide (48 ≤ c.toNat ∧ c.toNat ≤ 57) || decide (c.toNat = 46) || decide (c.toNat = 45)) = z → okc c = z := fun z h => h
  generalize okc c = y at *
  generalize c.toNat = n at *
  have hcase : n < 45 ∨ n = 45 ∨ n = 46 ∨ n = 47 ∨ (48 ≤ n ∧ n ≤ 57) ∨ (58 ≤ n ∧ n ≤ 96) ∨ (97 ≤ n ∧ n ≤ 122) ∨ 123 ≤ n := by omega
  go_enter Try.func77, Try.ntmps77
  rcases hcase with h | rfl | rfl | rfl | ⟨h, h'⟩ | ⟨h, h'⟩ | ⟨h, h'⟩ | h
  · obtain rfl := hz false (by simp; omega)
    clear hz
    have f0 : (n : Int) < 97 := by first | omega | (rw [bne_iff_ne]; omega)
    have f1 : (n : Int) < 48 := by first | omega | (rw [bne_iff_ne]; omega)
    have f2 : ((n : Int) != 46) = true := by first | omega | (rw [bne_iff_ne]; omega)
    have f3 : ((n : Int) != 45) = true := by first | omega | (rw [bne_iff_ne]; omega)
    go_wp2_with fail
    go_ret
    exact ⟨rfl, rfl⟩
  · obtain rfl := hz true (by decide)
    clear hz
    go_wp2_with fail
    go_ret
    exact ⟨rfl, rfl⟩
  · obtain rfl := hz true (by decide)
    clear hz
    go_wp2_with fail
    go_ret
    exact ⟨rfl, rfl⟩
  · obtain rfl := hz false (by decide)
    clear hz
    go_wp2_with fail
    go_ret
    exact ⟨rfl, rfl⟩
  · obtain rfl := hz true (by simp; omega)
    clear hz
    have f0 : (n : Int) < 97 := by first | omega | (rw [bne_iff_ne]; omega)
    have f1 : ¬ (n : Int) < 48 := by first | omega | (rw [bne_iff_ne]; omega)
    have f2 : ¬ 57 < (n : Int) := by first | omega | (rw [bne_iff_ne]; omega)
    go_wp2_with fail
    go_ret
    exact ⟨rfl, rfl⟩
  · obtain rfl := hz false (by simp; omega)
    clear hz
    have f0 : (n : Int) < 97 := by first | omega | (rw [bne_iff_ne]; omega)
    have f1 : ¬ (n : Int) < 48 := by first | omega | (rw [bne_iff_ne]; omega)
    have f2 : 57 < (n : Int) := by first | omega | (rw [bne_iff_ne]; omega)
    have f3 : ((n : Int) != 46) = true := by first | omega | (rw [bne_iff_ne]; omega)
    have f4 : ((n : Int) != 45) = true := by first | omega | (rw [bne_iff_ne]; omega)
    go_wp2_with fail
    go_ret
    exact ⟨rfl, rfl⟩
  · obtain rfl := hz true (by simp; omega)
    clear hz
    have f0 : ¬ (n : Int) < 97 := by first | omega | (rw [bne_iff_ne]; omega)
    have f1 : ¬ 122 < (n : Int) := by first | omega | (rw [bne_iff_ne]; omega)
    go_wp2_with fail
    go_ret
    exact ⟨rfl, rfl⟩
  · obtain rfl := hz false (by simp; omega)
    clear hz
    have f0 : ¬ (n : Int) < 97 := by first | omega | (rw [bne_iff_ne]; omega)
    have f1 : 122 < (n : Int) := by first | omega | (rw [bne_iff_ne]; omega)
    have f2 : ¬ (n : Int) < 48 := by first | omega | (rw [bne_iff_ne]; omega)
    have f3 : 57 < (n : Int) := by first | omega | (rw [bne_iff_ne]; omega)
    have f4 : ((n : Int) != 46) = true := by first | omega | (rw [bne_iff_ne]; omega)
    have f5 : ((n : Int) != 45) = true := by first | omega | (rw [bne_iff_ne]; omega)
    go_wp2_with fail
    go_ret
    exact ⟨rfl, rfl⟩
end Go.Proofs.Ytjbpgjfnccmdaaa
