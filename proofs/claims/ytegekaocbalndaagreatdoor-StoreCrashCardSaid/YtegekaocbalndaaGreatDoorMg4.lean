/- several texts in one: octet.Number and its reference; the check and its reference., the check of bytes, and its reference., a record's frame, and its reference. -/
import Derived.Test.YtegekaocbalndaaGreatDoorOa
import Derived.Test.YtegekaocbalndaaGreatDoorKq
section
set_option linter.unusedSimpArgs false
set_option linter.unusedVariables false
namespace Go.Proofs.YtegekaocbalndaaGreatDoor
open Go.RowKit

theorem u64_or (a c : Nat) (ha : a < 72057594037927936) (hc : c < 256) : bits .or .u64 ((a : Int) * 256) (c : Int) = ((a * 256 + c : Nat) : Int) := by
  show IntKind.u64.wrap ((BitVec.ofInt 64 ((a : Int) * 256) ||| BitVec.ofInt 64 (c : Int)).toNat : Int) = _
  have e1 : ((a : Int) * 256) = ((a * 256 : Nat) : Int) := by simp
  rw [e1, BitVec.ofInt_natCast, BitVec.ofInt_natCast, BitVec.toNat_or, BitVec.toNat_ofNat, BitVec.toNat_ofNat, Nat.mod_eq_of_lt (by omega), Nat.mod_eq_of_lt (by omega)]
  have e2 : a * 256 ||| c = a * 256 + c := by
    have := Nat.shiftLeft_add_eq_or_of_lt (b := c) (i := 8) (by omega) a
    rw [Nat.shiftLeft_eq] at this
    exact this.symm
  rw [e2]
  simp [IntKind.wrap, IntKind.bits, IntKind.signed]; omega
theorem num_take (l : List UInt8) (k : Nat) (h : k < l.length) : num (l.take (k + 1)) = num (l.take k) * 256 + (l.getD k 0).toNat := by
  rw [List.take_succ_eq_append_getElem h, num_snoc, List.getD_eq_getElem?_getD, List.getElem?_eq_getElem h]; rfl
theorem num_small (l : List UInt8) (k : Nat) (h : k < 8) : num (l.take k) < 72057594037927936 := by
  refine Nat.lt_of_lt_of_le (num_lt _) ?_
  refine Nat.le_trans (Nat.pow_le_pow_right (by omega) (show (l.take k).length ≤ 7 by simp; omega)) (by decide)
theorem num_big (l : List UInt8) (h : l.length ≤ 8) : num l < 18446744073709551616 := by
  refine Nat.lt_of_lt_of_le (num_lt _) ?_
  exact Nat.le_trans (Nat.pow_le_pow_right (by omega) h) (by decide)
set_option maxRecDepth 100000 in
set_option maxHeartbeats 1000000 in
theorem number_any (l : List UInt8) (h1 : 1 ≤ l.length) (h8 : l.length ≤ 8) (A : Option Addr) (cap B : Nat) (w : World) (hA : Bs w B A l) :
    Calls Tryz.prog 57 #[.slice A l.length cap] w fun e w' => e = .returned (.tuple #[.int .u64 (num l : Nat), .int .i64 0]) ∧ w = w' := by
  have HA := Lib.hid hA
  clear hA
  go_enter Tryz.func57, Tryz.ntmps57
  go_wp2_with fail
  go_loop [4, 17] (fun n i => ∃ k : Nat, k ≤ l.length ∧ i = .int .i64 k ∧ n = .int .u64 (num (l.take k) : Nat)) (fun _ i => l.length - (intOf i).toNat)
  case atStart => exact ⟨0, by omega, rfl, rfl⟩
  case round =>
    obtain ⟨k, hk, rfl, rfl⟩ := hrel
    by_cases hlt : k < l.length
    · obtain ⟨b, off, rfl, hb, hc⟩ := HA.out k hlt
      have hs := num_small l k (by omega)
      have Hn := Lib.hid (num_take l k hlt)
      have hc2 := u8_lt (l.getD k 0)
      have ho := u64_or (num (l.take k)) (l.getD k 0).toNat hs hc2
      generalize num (l.take k) = n at *
      generalize (l.getD k 0).toNat = c at *
      go_wp2_with fail
      go_round
      case rel => exact ⟨k + 1, by omega, by go_num, by rw [Hn.out]; go_num⟩
      case measure => simp [intOf]; omega
    · obtain rfl : k = l.length := by omega
      rw [List.take_length]
      go_wp2_with fail
      go_ret2
      exact ⟨rfl, rfl⟩
end Go.Proofs.YtegekaocbalndaaGreatDoor
end

section
set_option linter.unusedSimpArgs false
set_option linter.unusedVariables false
namespace Go.Proofs.YtegekaocbalndaaGreatDoor
open Go.RowKit

theorem crc_take (l : List UInt8) (k : Nat) (h : k < l.length) : crc (l.take (k + 1)) = cstep (crc (l.take k)) (l.getD k 0) := by
  rw [List.take_succ_eq_append_getElem h, crc_snoc, List.getD_eq_getElem?_getD, List.getElem?_eq_getElem h]; rfl
theorem and_one_odd (c : UInt32) (h : c.toNat % 2 = 1) : bits .and .u32 (c.toNat : Int) 1 = 1 := by
  have := u32_and c 1
  rw [show ((1 : UInt32).toNat : Int) = 1 from rfl] at this
  rw [this]
  simp [UInt32.toNat_and, Nat.and_one_is_mod, h]
theorem and_one_even (c : UInt32) (h : ¬ c.toNat % 2 = 1) : bits .and .u32 (c.toNat : Int) 1 = 0 := by
  have := u32_and c 1
  rw [show ((1 : UInt32).toNat : Int) = 1 from rfl] at this
  rw [this]
  simp [UInt32.toNat_and, Nat.and_one_is_mod]; omega
theorem shr_one (c : UInt32) : (c.toNat : Int) / 2 = ((shr32 c 1).toNat : Int) := u32_div c 1 2 (by omega) rfl
theorem xor_poly (c : UInt32) : bits .xor .u32 (c.toNat : Int) 2197175160 = ((xor32 c 2197175160).toNat : Int) := u32_xor c 2197175160
theorem xor_byte (c : UInt32) (x : UInt8) : bits .xor .u32 (c.toNat : Int) (x.toNat : Int) = ((xor32 c (toU32 x)).toNat : Int) := by
  have := u32_xor c (toU32 x)
  rw [toU32_nat] at this
  exact this
theorem xor_byte' (c : UInt32) (x : UInt8) : bits .xor .u32 (c.toNat : Int) ((x.toNat : Int) % 4294967296) = ((xor32 c (toU32 x)).toNat : Int) := by
  have := u8_lt x
  rw [show (x.toNat : Int) % 4294967296 = x.toNat by omega, xor_byte]
theorem cbit_odd (c : UInt32) (h : c.toNat % 2 = 1) : cbit c = xor32 (shr32 c 1) 2197175160 := if_pos h
theorem cbit_even (c : UInt32) (h : ¬ c.toNat % 2 = 1) : cbit c = shr32 c 1 := if_neg h

set_option maxRecDepth 100000 in
set_option maxHeartbeats 2000000 in
theorem check_any (l : List UInt8) (hl : l.length ≤ 100000000) (A : Option Addr) (cap B : Nat) (w : World) (hA : Bs w B A l) :
    Calls Tryz.prog 69 #[.slice A l.length cap] w fun e w' => e = .returned (.int .u32 ((check l).toNat : Int)) ∧ w = w' := by
  have HA := Lib.hid hA
  clear hA
  go_enter Tryz.func69, Tryz.ntmps69
  go_wp2_with fail
  go_loop [3, 9] (fun c i => ∃ k : Nat, k ≤ l.length ∧ i = .int .i64 k ∧ c = .int .u32 ((crc (l.take k)).toNat : Int)) (fun _ i => l.length - (intOf i).toNat)
  case atStart => exact ⟨0, by omega, rfl, rfl⟩
  case round =>
    obtain ⟨k, hk, rfl, rfl⟩ := hrel
    by_cases hlt : k < l.length
    · obtain ⟨b, off, rfl, hb, hc⟩ := HA.out k hlt
      have Hn := Lib.hid (crc_take l k hlt)
      have hx := xor_byte (crc (l.take k)) (l.getD k 0)
      have Hs : Hid (cstep (crc (l.take k)) (l.getD k 0) = cbits 8 (xor32 (crc (l.take k)) (toU32 (l.getD k 0)))) := Lib.hid rfl
      have hc2 := u8_lt (l.getD k 0)
      generalize crc (l.take k) = c at *
      generalize l.getD k 0 = x at *
      generalize xor32 c (toU32 x) = c0 at *
      go_wp2_with fail
      go_loop [3, 17] (fun c i => ∃ j : Nat, j ≤ 8 ∧ i = .int .i64 j ∧ c = .int .u32 ((cbits j c0).toNat : Int)) (fun _ i => 8 - (intOf i).toNat)
      case atStart => exact ⟨0, by omega, rfl, rfl⟩
      case round =>
        obtain ⟨j, hj, rfl, rfl⟩ := hrel
        by_cases hlt8 : j < 8
        · have Hb : Hid (cbits (j + 1) c0 = cbit (cbits j c0)) := Lib.hid rfl
          generalize cbits j c0 = d at *
          have hs := shr_one d
          have hd := u32_lt d
          by_cases h2 : d.toNat % 2 = 1
          · have ha := and_one_odd d h2
            have hp := xor_poly (shr32 d 1)
            have Hc := Lib.hid (cbit_odd d h2)
            clear h2
            go_wp2_with fail
            go_round
            case rel => exact ⟨j + 1, by omega, by go_num, by rw [Hb.out, Hc.out]⟩
            case measure => simp [intOf]; omega
          · have ha := and_one_even d h2
            have Hc := Lib.hid (cbit_even d h2)
            clear h2
            go_wp2_with fail
            go_round
            case rel => exact ⟨j + 1, by omega, by go_num, by rw [Hb.out, Hc.out]⟩
            case measure => simp [intOf]; omega
        · obtain rfl : j = 8 := by omega
          go_wp2_with fail
          go_round
          case rel => exact ⟨k + 1, by omega, by go_num, by rw [Hn.out, Hs.out]⟩
          case measure => simp [intOf]; omega
    · obtain rfl : k = l.length := by omega
      rw [List.take_length]
      have h1 := w32_not (crc l)
      have h2 := w32_not' (crc l)
      have Hc : Hid (check l = not32 (crc l)) := Lib.hid rfl
      generalize crc l = c at *
      go_wp2_with fail
      go_ret
      exact ⟨by rw [Hc.out]; rfl, rfl⟩
end Go.Proofs.YtegekaocbalndaaGreatDoor
end

section
set_option linter.unusedSimpArgs false
set_option linter.unusedVariables false
namespace Go.Proofs.YtegekaocbalndaaGreatDoor
open Go.RowKit

set_option maxRecDepth 100000 in
set_option maxHeartbeats 1000000 in
theorem four_any (n : Nat) (z : Int) (hz : z = n) (hn : n < 4294967296) (w : World) :
    Calls Tryz.prog 68 #[.int .u32 z] w fun e w' => ∃ v, e = .returned v ∧ w'.ownsRow w.heap.size 5 1 v 4 (bcells (beb 4 n)) ∧ Below w.heap.size w w' := by
  subst hz
  go_enter Tryz.func68, Tryz.ntmps68
  go_wp2_with fail
  refine (bytes_any n 4 (by omega) (by omega) (by omega) w).mono ?_
  rintro e w1 ⟨v, rfl, ho, hb⟩
  have HO := Lib.hid ho; have HB := Lib.hid hb
  clear ho hb
  go_wp2_with fail
  go_ret
  exact ⟨v, rfl, HO.out, HB.out⟩
theorem bcells_len4 (n : Nat) : (bcells (beb 4 n)).length = 4 := by rw [bcells_length, beb_length]

set_option maxRecDepth 100000 in
set_option maxHeartbeats 1000000 in
theorem frame_any (l : List UInt8) (hl : l.length ≤ 65536) (A : Option Addr) (cap : Nat) (w : World) (hA : Bs w w.heap.size A l) (hA0 : A = none → l = []) :
    Calls Tryz.prog 38 #[.slice A l.length cap] w fun e w' => ∃ v, e = .returned (.tuple #[v, .int .i64 0]) ∧ w'.ownsRow w.heap.size 5 1 v (l.length + 12) (bcells (frameL l)) ∧ Below w.heap.size w w' := by
  have HA := Lib.hid hA; have HA0 := Lib.hid hA0
  clear hA hA0
  have hx : bits .xor .u32 IntKind.u32.max (l.length : Int) = 4294967295 - (l.length : Int) := by
    have := w32_not' (UInt32.ofNat l.length)
    rw [← w32_not] at this
    simpa [UInt32.toNat_ofNat', Nat.mod_eq_of_lt (show l.length < 4294967296 by omega)] using this
  go_enter Tryz.func38, Tryz.ntmps38
  go_wp2_with fail
  refine (four_any l.length _ rfl (by omega) w).mono ?_
  rintro e w1 ⟨v1, rfl, ho1, hb1⟩
  have O1 := Lib.hid ho1; have B1 := Lib.hid hb1
  clear ho1 hb1
  go_wp2_with fail
  refine (four_any (4294967295 - l.length) _ (by omega) (by omega) w1).mono ?_
  rintro e w2 ⟨v2, rfl, ho2, hb2⟩
  obtain ⟨A2, c2, rfl, hr2, hn2, _⟩ := own_rd ho2
  have O1' := Lib.hid (own_below O1.out hb2); have R2 := Lib.hid hr2; have N2 := Lib.hid hn2
  have B2 := Lib.hid (B1.out.trans (hb2.mono B1.out.size))
  clear ho2 hb2 hr2 hn2 hx
  have HA2 := Lib.hid ((HA.out.below B2.out).more B2.out.size)
  have HL0 := Lib.hid (fun h : A = none => show l.length = 0 by rw [HA0.out h]; rfl)
  go_wp2_with (first
    | (at_builtin; refine wpList_append_src E5 rfl (.tmp 12) (.tmp 15) rfl w.heap.size _ 4 (bcells (beb 4 l.length)) rfl O1'.out w2.heap.size A2 (bcells (beb 4 (4294967295 - l.length))) 4 c2 rfl (bcells_len4 _) R2.out N2.out (bcells_one _) (by omega) (by omega) w (Nat.le_refl _) B2.out ?_; intro v3 w3 h2 h3 h4 h5; clear h4 h5; have O3 := Lib.hid h2; have B3 := Lib.hid h3; clear h2 h3 R2 N2 O1'; have HA3 := Lib.hid (HA.out.below B3.out))
    | (at_builtin; refine wpList_append_src E5 rfl (.tmp 16) (.tmp 17) rfl w.heap.size _ (4 + 4) _ rfl O3.out w.heap.size A (bcells l) l.length cap rfl (bcells_length _) HA3.out.rd HL0.out (bcells_one _) (by omega) (by omega) w (Nat.le_refl _) B3.out ?_; intro v4 w4 h2 h3 h4 h5; clear h4 h5; have O4 := Lib.hid h2; have B4 := Lib.hid h3; clear h2 h3 O3))
  refine (check_any l (by omega) A cap w.heap.size _ (HA.out.below B4.out)).mono ?_
  rintro e w5 ⟨rfl, rfl⟩
  go_wp2_with fail
  refine (four_any (check l).toNat _ rfl (u32_lt _) _).mono ?_
  rintro e w6 ⟨v6, rfl, ho6, hb6⟩
  obtain ⟨A6, c6, rfl, hr6, hn6, _⟩ := own_rd ho6
  have O4' := Lib.hid (own_below O4.out hb6); have R6 := Lib.hid hr6; have N6 := Lib.hid hn6
  have B6 := Lib.hid (B4.out.trans (hb6.mono B4.out.size))
  clear ho6 hb6 hr6 hn6
  go_wp2_with (at_builtin; refine wpList_append_src E5 rfl (.tmp 18) (.tmp 21) rfl w.heap.size _ (4 + 4 + l.length) _ rfl O4'.out w6.heap.size A6 (bcells (beb 4 (check l).toNat)) 4 c6 rfl (bcells_len4 _) R6.out N6.out (bcells_one _) (by omega) (by omega) w (Nat.le_refl _) B6.out ?_; intro v7 w7 h2 h3 h4 h5; clear h4 h5; have O7 := Lib.hid h2; have B7 := Lib.hid h3; clear h2 h3 O4')
  go_ret2
  refine ⟨v7, rfl, ?_, B7.out⟩
  have := O7.out
  rw [show 4 + 4 + l.length + 4 = l.length + 12 by omega] at this
  rw [frameL, bcells_app, bcells_app, bcells_app]
  simpa using this
set_option maxRecDepth 100000 in
set_option maxHeartbeats 1000000 in
theorem frame_long (n : Nat) (hl : 65536 < n) (A : Option Addr) (cap : Nat) (w : World) :
    Calls Tryz.prog 38 #[.slice A n cap] w fun e w' => e = .returned (.tuple #[.slice none 0 0, .int .i64 3]) ∧ w = w' := by
  go_enter Tryz.func38, Tryz.ntmps38
  go_wp2_with fail
  go_ret2
  exact ⟨rfl, rfl⟩
end Go.Proofs.YtegekaocbalndaaGreatDoor
end
