/- the check of bytes, and its reference. -/
import Derived.Test.YtjbpgjfnccmdaaaOb
set_option linter.unusedSimpArgs false
set_option linter.unusedVariables false
namespace Go.Proofs.Ytjbpgjfnccmdaaa
open Go.RowKit

theorem crc_take (l : List UInt8) (k : Nat) (h : k < l.length) : crc (l.take (k + 1)) = cstep (crc (l.take k)) (l.getD k 0) := by
  rw [List.take_succ_eq_append_getElem h, crc_snoc, List.getD_eq_getElem?_getD, List.getElem?_eq_getElem h]; rfl
theorem and_one_odd (c : UInt32) (h : c.toNat % 2 = 1) : bits .and .u32 (c.toNat : Int) 1 = 1 := by
  have := u32_and c 1
  rw [show ((1 : UInt32).toNat : Int) = 1 from rfl] at this
  rw [this]
  simp [UInt32.toNat_and, Nat.and_one_is_mod, h]
theorem and_one_even (c : UInt32) (h : ¬ c.toNat % 2 = 1) : bits .and .u32 (c.toNat : Int) 1 = 0 := by
  have := u32_and c 1
  rw [show ((1 : UInt32).toNat : Int) = 1 from rfl] at this
  rw [this]
  simp [UInt32.toNat_and, Nat.and_one_is_mod]; omega
theorem shr_one (c : UInt32) : (c.toNat : Int) / 2 = ((shr32 c 1).toNat : Int) := u32_div c 1 2 (by omega) rfl
theorem xor_poly (c : UInt32) : bits .xor .u32 (c.toNat : Int) 2197175160 = ((xor32 c 2197175160).toNat : Int) := u32_xor c 2197175160
theorem xor_byte (c : UInt32) (x : UInt8) : bits .xor .u32 (c.toNat : Int) (x.toNat : Int) = ((xor32 c (toU32 x)).toNat : Int) := by
  have := u32_xor c (toU32 x)
  rw [toU32_nat] at this
  exact this
theorem xor_byte' (c : UInt32) (x : UInt8) : bits .xor .u32 (c.toNat : Int) ((x.toNat : Int) % 4294967296) = ((xor32 c (toU32 x)).toNat : Int) := by
  have := u8_lt x
  rw [show (x.toNat : Int) % 4294967296 = x.toNat by omega, xor_byte]
theorem cbit_odd (c : UInt32) (h : c.toNat % 2 = 1) : cbit c = xor32 (shr32 c 1) 2197175160 := if_pos h
theorem cbit_even (c : UInt32) (h : ¬ c.toNat % 2 = 1) : cbit c = shr32 c 1 := if_neg h

set_option maxRecDepth 100000 in
set_option maxHeartbeats 2000000 in
theorem check_any (l : List UInt8) (hl : l.length ≤ 100000000) (A : Option Addr) (cap B : Nat) (w : World) (hA : Bs w B A l) :
    Calls Try.prog 48 #[.slice A l.length cap] w fun e w' => e = .returned (.int .u32 ((check l).toNat : Int)) ∧ w = w' := by
  have HA := Lib.hid hA
  clear hA
  go_enter Try.func48, Try.ntmps48
  go_wp2_with fail
  go_loop [3, 9] (fun c i => ∃ k : Nat, k ≤ l.length ∧ i = .int .i64 k ∧ c = .int .u32 ((crc (l.take k)).toNat : Int)) (fun _ i => l.length - (intOf i).toNat)
  case atStart => exact ⟨0, by omega, rfl, rfl⟩
  case round =>
    obtain ⟨k, hk, rfl, rfl⟩ := hrel
    by_cases hlt : k < l.length
    · obtain ⟨b, off, rfl, hb, hc⟩ := HA.out k hlt
      have Hn := Lib.hid (crc_take l k hlt)
      have hx := xor_byte (crc (l.take k)) (l.getD k 0)
      have Hs : Hid (cstep (crc (l.take k)) (l.getD k 0) = cbits 8 (xor32 (crc (l.take k)) (toU32 (l.getD k 0)))) := Lib.hid rfl
      have hc2 := u8_lt (l.getD k 0)
      generalize crc (l.take k) = c at *
      generalize l.getD k 0 = x at *
      generalize xor32 c (toU32 x) = c0 at *
      go_wp2_with fail
      go_loop [3, 17] (fun c i => ∃ j : Nat, j ≤ 8 ∧ i = .int .i64 j ∧ c = .int .u32 ((cbits j c0).toNat : Int)) (fun _ i => 8 - (intOf i).toNat)
      case atStart => exact ⟨0, by omega, rfl, rfl⟩
      case round =>
        obtain ⟨j, hj, rfl, rfl⟩ := hrel
        by_cases hlt8 : j < 8
        · have Hb : Hid (cbits (j + 1) c0 = cbit (cbits j c0)) := Lib.hid rfl
          generalize cbits j c0 = d at *
          have hs := shr_one d
          have hd := u32_lt d
          by_cases h2 : d.toNat % 2 = 1
          · have ha := and_one_odd d h2
            have hp := xor_poly (shr32 d 1)
            have Hc := Lib.hid (cbit_odd d h2)
            clear h2
            go_wp2_with fail
            go_round
            case rel => exact ⟨j + 1, by omega, by go_num, by rw [Hb.out, Hc.out]⟩
            case measure => simp [intOf]; omega
          · have ha := and_one_even d h2
            have Hc := Lib.hid (cbit_even d h2)
            clear h2
            go_wp2_with fail
            go_round
            case rel => exact ⟨j + 1, by omega, by go_num, by rw [Hb.out, Hc.out]⟩
            case measure => simp [intOf]; omega
        · obtain rfl : j = 8 := by omega
          go_wp2_with fail
          go_round
          case rel => exact ⟨k + 1, by omega, by go_num, by rw [Hn.out, Hs.out]⟩
          case measure => simp [intOf]; omega
    · obtain rfl : k = l.length := by omega
      rw [List.take_length]
      have h1 := w32_not (crc l)
      have h2 := w32_not' (crc l)
      have Hc : Hid (check l = not32 (crc l)) := Lib.hid rfl
      generalize crc l = c at *
      go_wp2_with fail
      go_ret
      exact ⟨by rw [Hc.out]; rfl, rfl⟩
end Go.Proofs.Ytjbpgjfnccmdaaa
