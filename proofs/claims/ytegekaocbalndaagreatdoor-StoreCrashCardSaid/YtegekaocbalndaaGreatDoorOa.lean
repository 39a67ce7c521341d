/- octet.Bytes, octet.Number and their references. -/
import Derived.Test.YtegekaocbalndaaGreatDoorMg3
import Derived.Test.YtegekaocbalndaaGreatDoorKf
set_option linter.unusedSimpArgs false
set_option linter.unusedVariables false
namespace Go.Proofs.YtegekaocbalndaaGreatDoor
open Go.RowKit

theorem u64_div (n k : Nat) : ((n : Int) / 2 ^ k) % 256 = ((bt n k).toNat : Int) := by
  unfold bt
  rw [UInt8.toNat_ofNat']
  have : ((n : Int) / 2 ^ k) = ((n / 2 ^ k : Nat) : Int) := by simp
  rw [this]; omega
theorem beb_next (n size k : Nat) (h : k < size) : beb k (n / 256 ^ (size - k)) ++ [bt n (8 * (size - 1 - k))] = beb (k + 1) (n / 256 ^ (size - (k + 1))) := by
  unfold bt
  rw [beb, Nat.div_div_eq_div_mul, ← Nat.pow_succ, show (size - (k + 1)).succ = size - k by omega, show size - 1 - k = size - (k + 1) by omega, Nat.pow_mul]
set_option maxRecDepth 100000 in
set_option maxHeartbeats 1000000 in
theorem bytes_any (n size : Nat) (h1 : 1 ≤ size) (h8 : size ≤ 8) (hn : n < 256 ^ size) (w : World) :
    Calls Tryz.prog 66 #[.int .u64 n, .int .i64 size] w fun e w' => ∃ v, e = .returned (.tuple #[v, .int .i64 0]) ∧ w'.ownsRow w.heap.size 5 1 v size (bcells (beb size n)) ∧ Below w.heap.size w w' := by
  have hz : (n : Int) / 2 ^ (8 * size) = 0 := by
    have e : (2 : Int) ^ (8 * size) = ((256 ^ size : Nat) : Int) := by rw [show (256 : Nat) = 2 ^ 8 from rfl, ← Nat.pow_mul]; simp
    rw [e]
    have : (n : Int) / ((256 ^ size : Nat) : Int) = ((n / 256 ^ size : Nat) : Int) := by simp
    rw [this, Nat.div_eq_of_lt hn]; rfl
  clear hn
  by_cases h88 : size < 8
  all_goals
    go_enter Tryz.func66, Tryz.ntmps66
    go_wp2_with fail
    go_loopw [6, 7] (fun v i wr => ∃ k : Nat, k ≤ size ∧ i = .int .i64 ((size : Int) - 1 - k) ∧ wr.ownsRow w.heap.size 5 1 v k (bcells (beb k (n / 256 ^ (size - k)))) ∧ Below w.heap.size w wr) (fun _ i _ => (intOf i + 1).toNat)
    case atStart => exact ⟨0, by omega, by simp, World.ownsRow_nil _ _ _ _, Below.refl _ _⟩
    case round =>
      obtain ⟨k, hk, rfl, hown, hb⟩ := hrel
      have Hown := Lib.hid hown
      have Hb := Lib.hid hb
      clear hown hb
      by_cases hlt : k < size
      · have e1 : (8 * ((size : Int) - 1 - k)).toNat = 8 * (size - 1 - k) := by omega
        have hby := u64_div n (8 * (size - 1 - k))
        have Hn := Lib.hid (beb_next n size k hlt)
        go_wp2_with (at_builtin; refine wpList_append_one0 E5 rfl (.tmp 31) (.tmp 37) rfl w.heap.size _ rfl _ k _ rfl Hown.out rfl (by omega) (by omega) w (Nat.le_refl _) Hb.out ?_; intro v' w' h2 h3 h4 h5; clear h4 h5; have H2 := Lib.hid h2; have H3 := Lib.hid h3; clear h2 h3)
        go_roundw
        case rel => exact ⟨k + 1, by omega, by go_num, by rw [← Hn.out, bcells_app]; exact H2.out, H3.out⟩
        case measure => simp [intOf]; omega
      · obtain rfl : k = size := by omega
        go_wp2_with fail
        go_ret2
        exact ⟨_, rfl, by simpa using Hown.out, Hb.out⟩
end Go.Proofs.YtegekaocbalndaaGreatDoor
