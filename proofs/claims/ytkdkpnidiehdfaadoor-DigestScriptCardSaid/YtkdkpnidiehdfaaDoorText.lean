/- hex digits, plain. -/
import Derived.Test.YtkdkpnidiehdfaaDoorHash
set_option linter.unusedSimpArgs false
set_option linter.unusedVariables false
namespace Go.Proofs.YtkdkpnidiehdfaaDoor
open Go.RowKit

def hexd (n : UInt8) : UInt8 := if n < 10 then 48 + n else 87 + n
def hexs (c : UInt8) : List UInt8 := [hexd (c / 16), hexd (c % 16)]
def text (l : List UInt8) : List UInt8 := l.flatMap hexs
theorem text_app (l r : List UInt8) : text (l ++ r) = text l ++ text r := by simp [text]
theorem text_length (l : List UInt8) : (text l).length = 2 * l.length := by
  induction l with
  | nil => rfl
  | cons c l ih => show (hexs c ++ text l).length = _; rw [List.length_append, ih]; simp [hexs]; omega
theorem text_take (l : List UInt8) (t : Nat) (ht : t < l.length) : text (l.take (t + 1)) = text (l.take t) ++ hexs (l.getD t 0) := by
  rw [List.take_succ_eq_append_getElem ht, text_app]
  congr 1
  simp [text, List.getD_eq_getElem?_getD, ht]
/-- the value of a digit; 16: it is none. -/
def hexv (c : UInt8) : Nat := if 48 ≤ c ∧ c ≤ 57 then c.toNat - 48 else if 97 ≤ c ∧ c ≤ 102 then c.toNat - 87 else 16
theorem u8_shr4 (c : UInt8) : ((c.toNat : Int) / 2 ^ 4) = ((c / 16).toNat : Int) := by simp
theorem u8_and15 (c : UInt8) : c &&& 15 = c % 16 := by
  apply UInt8.toNat_inj.1
  rw [UInt8.toNat_and, UInt8.toNat_mod]
  exact Nat.and_two_pow_sub_one_eq_mod c.toNat 4
def digitsL : List UInt8 := [48, 49, 50, 51, 52, 53, 54, 55, 56, 57, 97, 98, 99, 100, 101, 102]
theorem digit_lit (x : UInt8) (n : Nat) (hn : n = x.toNat) (h : n < 16) : (ByteArray.mk #[48, 49, 50, 51, 52, 53, 54, 55, 56, 57, 97, 98, 99, 100, 101, 102]).data.toList.getD n 0 = hexd x := by
  have : ∀ n : Fin 16, (ByteArray.mk #[48, 49, 50, 51, 52, 53, 54, 55, 56, 57, 97, 98, 99, 100, 101, 102]).data.toList.getD n.val 0 = hexd (UInt8.ofNat n.val) := by decide
  subst hn; rw [this ⟨x.toNat, h⟩]; simp
theorem digit_at (x : UInt8) (h : x < 16) : digitsL.getD x.toNat 0 = hexd x := by
  have : ∀ n : Fin 16, digitsL.getD n.val 0 = hexd (UInt8.ofNat n.val) := by decide
  have h2 := this ⟨x.toNat, by simpa [UInt8.lt_iff_toNat_lt] using h⟩
  simpa using h2

/-- a digit's value, and whether it is one. -/
def valB (c : UInt8) : Bool := (decide (48 ≤ c.toNat) && decide (c.toNat ≤ 57)) || (decide (97 ≤ c.toNat) && decide (c.toNat ≤ 102))
def valN (c : UInt8) : UInt8 := if 48 ≤ c.toNat ∧ c.toNat ≤ 57 then UInt8.ofNat (c.toNat - 48) else if 97 ≤ c.toNat ∧ c.toNat ≤ 102 then UInt8.ofNat (c.toNat - 87) else 0
theorem valN_toNat (c : UInt8) : (valN c).toNat = if 48 ≤ c.toNat ∧ c.toNat ≤ 57 then c.toNat - 48 else if 97 ≤ c.toNat ∧ c.toNat ≤ 102 then c.toNat - 87 else 0 := by
  have := c.toNat_lt
  unfold valN
  split
  · rw [UInt8.toNat_ofNat']; omega
  · split
    · rw [UInt8.toNat_ofNat']; omega
    · rfl
theorem valN_lt (c : UInt8) : (valN c).toNat < 16 := by
  rw [valN_toNat]
  split
  · omega
  · split <;> omega
/-- the first t bytes that a text tells. -/
def pby (l : List UInt8) (i : Nat) : UInt8 := UInt8.ofNat (16 * (valN (l.getD (2 * i) 0)).toNat + (valN (l.getD (2 * i + 1) 0)).toNat)
def plist (l : List UInt8) (t : Nat) : List UInt8 := (List.range t).map (pby l) ++ List.replicate (32 - t) 0
def pokB (l : List UInt8) (t : Nat) : Bool := (List.range t).all fun i => valB (l.getD i 0)
def parseOk (l : List UInt8) : Bool := decide (l.length = 64) && pokB l 64
def parseD (l : List UInt8) : List UInt8 := if parseOk l then plist l 32 else List.replicate 32 0
def parseE (l : List UInt8) : Int := if parseOk l then 0 else 4
theorem plist_length (l : List UInt8) (t : Nat) (h : t ≤ 32) : (plist l t).length = 32 := by simp [plist]; omega
theorem plist_set (l : List UInt8) (t : Nat) (h : t < 32) : (plist l t).set t (pby l t) = plist l (t + 1) := by
  have e : 32 - t = (32 - (t + 1)) + 1 := by omega
  simp only [plist]
  rw [List.set_append_right _ _ (by simp), List.length_map, List.length_range, Nat.sub_self, e, List.replicate_succ, List.set_cons_zero, List.range_succ, List.map_append, List.append_assoc]
  rfl
theorem pokB_succ (l : List UInt8) (t : Nat) : pokB l (t + 1) = (pokB l t && valB (l.getD t 0)) := by simp [pokB, List.range_succ]
theorem pokB_false {l : List UInt8} {t : Nat} (h : pokB l t = false) : ∀ n, t ≤ n → pokB l n = false := by
  intro n hn
  induction n with
  | zero => obtain rfl : t = 0 := by omega
            exact h
  | succ n ih =>
    by_cases e : t = n + 1
    · exact e ▸ h
    · rw [pokB_succ, ih (by omega)]; rfl
end Go.Proofs.YtkdkpnidiehdfaaDoor
