/-
  Plain lemmas on the numbers of fixed width: the walk's own forms ('wrap', 'bits', '/ 2 ^ n') as operations on UInt8, UInt32, UInt64. Conditions: none but those stated.
-/
import Derived.WalkKit
set_option linter.unusedSimpArgs false
set_option linter.unusedVariables false
namespace Go.Proofs.YtegekaocbalndaaGreatDoor
open Go.RowKit

theorem u32_lt (x : UInt32) : x.toNat < 4294967296 := x.toNat_lt
theorem u8_lt (x : UInt8) : x.toNat < 256 := x.toNat_lt

theorem wrap_u32_nat (n : Nat) : IntKind.u32.wrap (n : Int) = ((UInt32.ofNat n).toNat : Int) := by
  simp [IntKind.wrap, IntKind.bits, IntKind.signed]
theorem wrap_u8_nat (n : Nat) : IntKind.u8.wrap (n : Int) = ((UInt8.ofNat n).toNat : Int) := by
  simp [IntKind.wrap, IntKind.bits, IntKind.signed]

theorem u32_add (a b : UInt32) : IntKind.u32.wrap ((a.toNat : Int) + (b.toNat : Int)) = ((a + b).toNat : Int) := by
  simp [IntKind.wrap, IntKind.bits, IntKind.signed]
theorem u32_shl (a : UInt32) (n : Nat) (h : n < 32) : IntKind.u32.wrap ((a.toNat : Int) * 2 ^ n) = ((a <<< UInt32.ofNat n).toNat : Int) := by
  have e : (a.toNat : Int) * 2 ^ n = ((a.toNat * 2 ^ n : Nat) : Int) := by simp
  rw [e, wrap_u32_nat]
  have hm : n % 4294967296 % 32 = n := by omega
  simp [UInt32.toNat_shiftLeft, Nat.shiftLeft_eq, hm]
theorem u32_shr (a : UInt32) (n : Nat) (h : n < 32) : (a.toNat : Int) / 2 ^ n = ((a >>> UInt32.ofNat n).toNat : Int) := by
  have hm : n % 4294967296 % 32 = n := by omega
  simp [UInt32.toNat_shiftRight, Nat.shiftRight_eq_div_pow, hm]
theorem u32_bits (op : BinOp) (a b c : UInt32) (h : bits op .u32 (a.toNat : Int) (b.toNat : Int) = (c.toNat : Int)) : bits op .u32 (a.toNat : Int) (b.toNat : Int) = (c.toNat : Int) := h
theorem ofInt_u32 (a : UInt32) : (BitVec.ofInt 32 (a.toNat : Int)) = a.toBitVec := by
  apply BitVec.eq_of_toNat_eq
  rw [BitVec.ofInt_natCast, BitVec.toNat_ofNat]
  exact Nat.mod_eq_of_lt a.toNat_lt
theorem ofInt_u8 (a : UInt8) : (BitVec.ofInt 8 (a.toNat : Int)) = a.toBitVec := by
  apply BitVec.eq_of_toNat_eq
  rw [BitVec.ofInt_natCast, BitVec.toNat_ofNat]
  exact Nat.mod_eq_of_lt a.toNat_lt
theorem wrap_u32_self (a : UInt32) : IntKind.u32.wrap (a.toNat : Int) = (a.toNat : Int) := by
  rw [wrap_u32_nat, UInt32.ofNat_toNat]
theorem wrap_u8_self (a : UInt8) : IntKind.u8.wrap (a.toNat : Int) = (a.toNat : Int) := by
  rw [wrap_u8_nat, UInt8.ofNat_toNat]
theorem u32_and (a b : UInt32) : bits .and .u32 (a.toNat : Int) (b.toNat : Int) = ((a &&& b).toNat : Int) := by
  show IntKind.u32.wrap ((BitVec.ofInt 32 (a.toNat : Int) &&& BitVec.ofInt 32 (b.toNat : Int)).toNat : Int) = _
  rw [ofInt_u32, ofInt_u32]; exact wrap_u32_self (a &&& b)
theorem u32_or (a b : UInt32) : bits .or .u32 (a.toNat : Int) (b.toNat : Int) = ((a ||| b).toNat : Int) := by
  show IntKind.u32.wrap ((BitVec.ofInt 32 (a.toNat : Int) ||| BitVec.ofInt 32 (b.toNat : Int)).toNat : Int) = _
  rw [ofInt_u32, ofInt_u32]; exact wrap_u32_self (a ||| b)
theorem u32_xor (a b : UInt32) : bits .xor .u32 (a.toNat : Int) (b.toNat : Int) = ((a ^^^ b).toNat : Int) := by
  show IntKind.u32.wrap ((BitVec.ofInt 32 (a.toNat : Int) ^^^ BitVec.ofInt 32 (b.toNat : Int)).toNat : Int) = _
  rw [ofInt_u32, ofInt_u32]; exact wrap_u32_self (a ^^^ b)
theorem u8_xor (a b : UInt8) : bits .xor .u8 (a.toNat : Int) (b.toNat : Int) = ((a ^^^ b).toNat : Int) := by
  show IntKind.u8.wrap ((BitVec.ofInt 8 (a.toNat : Int) ^^^ BitVec.ofInt 8 (b.toNat : Int)).toNat : Int) = _
  rw [ofInt_u8, ofInt_u8]; exact wrap_u8_self (a ^^^ b)
theorem u8_or (a b : UInt8) : bits .or .u8 (a.toNat : Int) (b.toNat : Int) = ((a ||| b).toNat : Int) := by
  show IntKind.u8.wrap ((BitVec.ofInt 8 (a.toNat : Int) ||| BitVec.ofInt 8 (b.toNat : Int)).toNat : Int) = _
  rw [ofInt_u8, ofInt_u8]; exact wrap_u8_self (a ||| b)
theorem u8_and (a b : UInt8) : bits .and .u8 (a.toNat : Int) (b.toNat : Int) = ((a &&& b).toNat : Int) := by
  show IntKind.u8.wrap ((BitVec.ofInt 8 (a.toNat : Int) &&& BitVec.ofInt 8 (b.toNat : Int)).toNat : Int) = _
  rw [ofInt_u8, ofInt_u8]; exact wrap_u8_self (a &&& b)
/-- 'byte(x)' of a uint32. -/
theorem u32_to_u8 (a : UInt32) : IntKind.u8.wrap (a.toNat : Int) = (a.toUInt8.toNat : Int) := by
  rw [wrap_u8_nat]; simp
/-- 'uint32(b)' of a byte. -/
theorem u8_to_u32 (a : UInt8) : (a.toNat : Int) = (a.toUInt32.toNat : Int) := by simp

theorem wrap_u32_mod (n : Int) : IntKind.u32.wrap n = n % 4294967296 := by simp [IntKind.wrap, IntKind.bits, IntKind.signed]
theorem wrap_u8_mod (n : Int) : IntKind.u8.wrap n = n % 256 := by simp [IntKind.wrap, IntKind.bits, IntKind.signed]
theorem u32_addm (a b : UInt32) : ((a.toNat : Int) + (b.toNat : Int)) % 4294967296 = ((a + b).toNat : Int) := by rw [← wrap_u32_mod, u32_add]
theorem u32_to_u8m (a : UInt32) : (a.toNat : Int) % 256 = (a.toUInt8.toNat : Int) := by rw [← wrap_u8_mod, u32_to_u8]
theorem wi64 (n : Int) (h : -4611686018427387904 ≤ n) (h' : n ≤ 4611686018427387904) : IntKind.i64.wrap n = n := by
  rw [IntKind.wrap_i64]; omega
theorem u32_div (a : UInt32) (n : Nat) (k : Int) (h : n < 32) (hk : k = 2 ^ n) : (a.toNat : Int) / k = ((a >>> UInt32.ofNat n).toNat : Int) := by rw [hk]; exact u32_shr a n h
theorem u32_div8 (a : UInt32) : (a.toNat : Int) / 8 = ((a >>> 3).toNat : Int) := u32_div a 3 8 (by omega) rfl
theorem u32_div1024 (a : UInt32) : (a.toNat : Int) / 1024 = ((a >>> 10).toNat : Int) := u32_div a 10 1024 (by omega) rfl
theorem u32_div24 (a : UInt32) : (a.toNat : Int) / 16777216 = ((a >>> 24).toNat : Int) := u32_div a 24 16777216 (by omega) rfl
theorem u32_div16 (a : UInt32) : (a.toNat : Int) / 65536 = ((a >>> 16).toNat : Int) := u32_div a 16 65536 (by omega) rfl
theorem u32_div_8 (a : UInt32) : (a.toNat : Int) / 256 = ((a >>> 8).toNat : Int) := u32_div a 8 256 (by omega) rfl
/- names that simp does not open -/
def add32 (a b : UInt32) : UInt32 := a + b
def xor32 (a b : UInt32) : UInt32 := a ^^^ b
def and32 (a b : UInt32) : UInt32 := a &&& b
def or32 (a b : UInt32) : UInt32 := a ||| b
def not32 (a : UInt32) : UInt32 := ~~~ a
def shr32 (a b : UInt32) : UInt32 := a >>> b
theorem w32_add (a b : UInt32) : ((a.toNat : Int) + (b.toNat : Int)) % 4294967296 = ((add32 a b).toNat : Int) := u32_addm a b
theorem w32_xor (a b : UInt32) : bits .xor .u32 (a.toNat : Int) (b.toNat : Int) = ((xor32 a b).toNat : Int) := u32_xor a b
theorem w32_and (a b : UInt32) : bits .and .u32 (a.toNat : Int) (b.toNat : Int) = ((and32 a b).toNat : Int) := u32_and a b
theorem w32_or (a b : UInt32) : bits .or .u32 (a.toNat : Int) (b.toNat : Int) = ((or32 a b).toNat : Int) := u32_or a b
theorem w32_div8 (a : UInt32) : (a.toNat : Int) / 8 = ((shr32 a 3).toNat : Int) := u32_div8 a
theorem w32_div1024 (a : UInt32) : (a.toNat : Int) / 1024 = ((shr32 a 10).toNat : Int) := u32_div1024 a
theorem w32_div24 (a : UInt32) : (a.toNat : Int) / 16777216 = ((shr32 a 24).toNat : Int) := u32_div24 a
theorem w32_div16 (a : UInt32) : (a.toNat : Int) / 65536 = ((shr32 a 16).toNat : Int) := u32_div16 a
theorem w32_div_8 (a : UInt32) : (a.toNat : Int) / 256 = ((shr32 a 8).toNat : Int) := u32_div_8 a
theorem w32_not (a : UInt32) : 4294967295 - (a.toNat : Int) = ((not32 a).toNat : Int) := by
  have : (not32 a).toNat = 4294967295 - a.toNat := by simp [not32, UInt32.toNat_not]
  have h := u32_lt a
  omega
theorem signed_u32 : IntKind.u32.signed = false := rfl
theorem signed_u8 : IntKind.u8.signed = false := rfl
theorem w32_not' (a : UInt32) : bits .xor .u32 IntKind.u32.max (a.toNat : Int) = ((not32 a).toNat : Int) := by
  have h : IntKind.u32.max = ((4294967295 : UInt32).toNat : Int) := by decide
  rw [h, u32_xor]
  have : (4294967295 : UInt32) ^^^ a = ~~~ a := by
    apply UInt32.toBitVec_inj.1
    rw [UInt32.toBitVec_xor, UInt32.toBitVec_not]
    exact BitVec.allOnes_xor
  rw [this]; rfl
def toU32 (a : UInt8) : UInt32 := a.toUInt32
def shl32 (a b : UInt32) : UInt32 := a <<< b
theorem w8_conv (a : UInt8) : (a.toNat : Int) % 4294967296 = ((toU32 a).toNat : Int) := by
  have := u8_lt a; unfold toU32; rw [← u8_to_u32]; omega
theorem w32_mul (a : UInt32) (n : Nat) (k : Int) (h : n < 32) (hk : k = 2 ^ n) : (a.toNat : Int) * k % 4294967296 = ((shl32 a (UInt32.ofNat n)).toNat : Int) := by
  rw [hk, ← wrap_u32_mod]; exact u32_shl a n h
theorem w32_mul24 (a : UInt32) : (a.toNat : Int) * 16777216 % 4294967296 = ((shl32 a 24).toNat : Int) := w32_mul a 24 _ (by omega) rfl
theorem w32_mul16 (a : UInt32) : (a.toNat : Int) * 65536 % 4294967296 = ((shl32 a 16).toNat : Int) := w32_mul a 16 _ (by omega) rfl
theorem w32_mul8 (a : UInt32) : (a.toNat : Int) * 256 % 4294967296 = ((shl32 a 8).toNat : Int) := w32_mul a 8 _ (by omega) rfl
theorem ret_int {k : IntKind} {a b : Int} (h : a = b) : Ending.returned (.int k a) = .returned (.int k b) := by rw [h]
theorem ret_bool {a b : Bool} (h : a = b) : Ending.returned (.bool a) = .returned (.bool b) := by rw [h]

/-- a number of 32 bits turned by n to the right, 1 to 31. -/
def rotr (x : UInt32) (n : Nat) : UInt32 := (x >>> UInt32.ofNat n) ||| (x <<< UInt32.ofNat (32 - n))

end Go.Proofs.YtegekaocbalndaaGreatDoor
