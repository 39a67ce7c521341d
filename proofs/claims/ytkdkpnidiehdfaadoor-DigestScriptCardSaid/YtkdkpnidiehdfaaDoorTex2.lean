/- the text of a digest is read as it. -/
import Derived.Test.YtkdkpnidiehdfaaDoorText
set_option linter.unusedSimpArgs false
set_option linter.unusedVariables false
namespace Go.Proofs.YtkdkpnidiehdfaaDoor
open Go.RowKit

theorem text_getD (d : List UInt8) : ∀ i, i < d.length → (text d).getD (2 * i) 0 = hexd (d.getD i 0 / 16) ∧ (text d).getD (2 * i + 1) 0 = hexd (d.getD i 0 % 16) := by
  induction d with
  | nil => intro i hi; simp at hi
  | cons c d ih =>
    intro i hi
    have e : text (c :: d) = hexd (c / 16) :: hexd (c % 16) :: text d := rfl
    rw [e]
    cases i with
    | zero => exact ⟨rfl, rfl⟩
    | succ i =>
      have := ih i (by simpa using hi)
      rw [show 2 * (i + 1) = 2 * i + 1 + 1 by omega]
      simpa using this
theorem hexd_ok (n : UInt8) (h : n.toNat < 16) : valB (hexd n) = true ∧ valN (hexd n) = n := by
  have : ∀ k : Fin 16, valB (hexd (UInt8.ofNat k.val)) = true ∧ valN (hexd (UInt8.ofNat k.val)) = UInt8.ofNat k.val := by decide
  simpa using this ⟨n.toNat, h⟩
theorem pby_text (d : List UInt8) (i : Nat) (hi : i < d.length) : pby (text d) i = d.getD i 0 := by
  obtain ⟨h1, h2⟩ := text_getD d i hi
  unfold pby
  rw [h1, h2]
  generalize d.getD i 0 = c
  have hc := c.toNat_lt
  rw [(hexd_ok (c / 16) (by rw [UInt8.toNat_div]; simp; omega)).2, (hexd_ok (c % 16) (by rw [UInt8.toNat_mod]; simp; omega)).2, UInt8.toNat_div, UInt8.toNat_mod]
  apply UInt8.toNat_inj.1
  rw [UInt8.toNat_ofNat']
  simp
  omega
theorem text_ok (d : List UInt8) (hd : d.length = 32) : parseOk (text d) = true := by
  have hl : (text d).length = 64 := by rw [text_length, hd]
  unfold parseOk pokB
  rw [hl]
  simp only [decide_true, Bool.true_and, List.all_eq_true, List.mem_range]
  intro i hi
  have hj : i / 2 < d.length := by omega
  obtain ⟨h1, h2⟩ := text_getD d (i / 2) hj
  generalize d.getD (i / 2) 0 = c at h1 h2
  have hc := c.toNat_lt
  rcases Nat.mod_two_eq_zero_or_one i with h | h
  · rw [show 2 * (i / 2) = i by omega] at h1
    rw [h1]
    exact (hexd_ok _ (by rw [UInt8.toNat_div]; simp; omega)).1
  · rw [show 2 * (i / 2) + 1 = i by omega] at h2
    rw [h2]
    exact (hexd_ok _ (by rw [UInt8.toNat_mod]; simp; omega)).1
theorem parse_text (d : List UInt8) (hd : d.length = 32) : parseD (text d) = d ∧ parseE (text d) = 0 := by
  unfold parseD parseE
  rw [text_ok d hd]
  refine ⟨?_, rfl⟩
  show plist (text d) 32 = d
  apply List.ext_getElem
  · simp [plist_length, hd]
  intro i h1 h2
  have e := pby_text d i h2
  simp [plist, List.getD_eq_getElem?_getD, h2] at e ⊢
  exact e
end Go.Proofs.YtkdkpnidiehdfaaDoor
