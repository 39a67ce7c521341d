import Derived.Test.YtkdkpnidiehdfaaDoorDf
set_option linter.unusedSimpArgs false
set_option linter.unusedVariables false
namespace Go.Proofs.YtkdkpnidiehdfaaDoor
open Go.RowKit

theorem u8_div (n k : Nat) : ((n : Int) / 2 ^ k) % 256 = ((bt n k).toNat : Int) := by
  unfold bt
  rw [UInt8.toNat_ofNat']
  have : ((n : Int) / 2 ^ k) = ((n / 2 ^ k : Nat) : Int) := by simp
  rw [this]; omega

set_option maxRecDepth 100000 in
set_option maxHeartbeats 1000000 in
theorem eight_any (n : Nat) (hn : n < 18446744073709551616) (w : World) :
    Calls Tryd.prog 53 #[.int .u64 n] w fun e w' => ∃ v, e = .returned v ∧ w'.ownsRow w.heap.size 5 1 v 8 (bcells (eight n)) ∧ Below w.heap.size w w' := by
  clear hn
  go_enter Tryd.func53, Tryd.ntmps53
  go_wp2
  go_loopw [3, 4] (fun v i wr => ∃ k : Nat, k ≤ 8 ∧ i = .int .i64 k ∧ wr.ownsRow w.heap.size 5 1 v k (bcells (eightL n k)) ∧ Below w.heap.size w wr) (fun _ i _ => 8 - (intOf i).toNat)
  case atStart => exact ⟨0, by omega, rfl, World.ownsRow_nil _ _ _ _, Below.refl _ _⟩
  case round =>
    obtain ⟨k, hk, rfl, hown, hb⟩ := hrel
    have Hown := Lib.hid hown
    have Hb := Lib.hid hb
    clear hown hb
    by_cases hlt : k < 8
    · have e1 : ((56 : Int) - 8 * k).toNat = 56 - 8 * k := by omega
      have hby := u8_div n (56 - 8 * k)
      go_wp2_with (at_builtin; refine wpList_append_one0 E5 rfl (.tmp 9) (.tmp 16) rfl w.heap.size _ rfl _ k (bcells (eightL n k)) rfl Hown.out rfl (by omega) (by omega) w (Nat.le_refl _) Hb.out ?_; intro v' w' h2 h3 h4 h5; clear h4 h5; have H2 := Lib.hid h2; have H3 := Lib.hid h3; clear h2 h3)
      go_roundw
      case rel => exact ⟨k + 1, by omega, by go_num, by rw [eightL_succ, bcells_app]; exact H2.out, H3.out⟩
      case measure => simp [intOf]; omega
    · obtain rfl : k = 8 := by omega
      go_wp2
      go_ret
      exact ⟨_, rfl, Hown.out, Hb.out⟩
end Go.Proofs.YtkdkpnidiehdfaaDoor
