/- assizelaw09.Large, awake. -/
import Derived.Test.YtbmpjphemjponaaWk
import Derived.Test.YtbmpjphemjponaaVi
import Derived.Test.YtbmpjphemjponaaVm
import Derived.Test.YtbmpjphemjponaaKg
set_option linter.unusedSimpArgs false
set_option linter.unusedVariables false
namespace Go.Proofs.Ytbmpjphemjponaa
open Go.RowKit

theorem cdv_at {w : World} {B : Nat} {v : Value} {c : Cd} (h : CdAt w B v c) : ∃ p q : Slc, v = cdv c p q ∧ VlsAt w B p c.shared ∧ BdsAt w B q c.bodies := h
set_option maxRecDepth 100000 in
theorem large_any (c : Cd) (hw : c.wt ≤ 4000000) (p q : Slc) (B : Nat) (w : World) (h1 : VlsAt w B p c.shared) (h2 : BdsAt w B q c.bodies) (hB : B ≤ w.heap.size) :
    Calls Try.prog 7 #[cdv c p q] w fun e w' => e = .returned (.bool (decide (12000 < c.wt))) ∧ Below w.heap.size w w' := by
  have HW := Lib.hid (fun W (h : Below w.heap.size w W) => weight_any c hw (cdv c p q) B W ⟨p, q, rfl, h1.below (h.mono hB), h2.below (h.mono hB)⟩ (Nat.le_trans hB h.size))
  have HD : Hid (decide ((12000 : Int) < (c.wt : Nat)) = decide (12000 < c.wt)) := Lib.hid (by by_cases h : 12000 < c.wt <;> simp [h] <;> omega)
  unfold cdv at *
  clear h1 h2
  generalize hd : decide (12000 < c.wt) = d at *
  clear hd hw
  generalize c.wt = k at *
  obtain ⟨sh, mt, bs⟩ := c
  dsimp only at *
  generalize sh.length = n1 at *
  generalize bs.length = n2 at *
  obtain ⟨A, cp⟩ := p
  obtain ⟨A', cp'⟩ := q
  dsimp only at *
  go_enter Try.func7, Try.ntmps7
  go_upto_region 1 with (fail)
  obtain ⟨b0_, hb_⟩ := boxes1 w (.cells #[.slice A n1 cp, .int .i64 mt, .slice A' n2 cp'] 25)
  generalize w.alloc (.cells #[.slice A n1 cp, .int .i64 mt, .slice A' n2 cp'] 25) = w0 at *
  have T0 : Hid (∀ W, Below w0.heap.size w0 W → W.cell? ⟨w.heap.size, 0, none⟩ = some (.slice A n1 cp) ∧ W.cell? ⟨w.heap.size, 1, none⟩ = some (.int .i64 mt) ∧ W.cell? ⟨w.heap.size, 2, none⟩ = some (.slice A' n2 cp')) := Lib.hid (fun W hW => by have e := (hW.block _ (lt_blk b0_)).trans b0_; exact ⟨by rw [cell_blk e]; rfl, by rw [cell_blk e]; rfl, by rw [cell_blk e]; rfl⟩)
  have HB := Lib.hid hb_
  clear hb_ b0_
  obtain ⟨c0, c1, c2⟩ := T0.out w0 (Below.refl _ _)
  go_wp2_with fail
  refine (HW.out _ HB.out).mono ?_
  rintro e w1 ⟨rfl, hb1⟩
  have H1 := Lib.hid (HB.out.trans (hb1.mono HB.out.size))
  have hd := HD.out
  clear c0 c1 c2 hb1
  go_wp2_with fail
  go_ret
  exact ⟨ret_bool (by first | rfl | exact hd | simpa using HD.out), H1.out⟩
def zero7 : List UInt8 := [0, 0, 1, 0, 0, 0, 0]
set_option maxRecDepth 100000 in
set_option maxHeartbeats 1000000 in
theorem awake_any (w : World) : Calls Try.prog 13 #[] w fun e w' => e = .returned (.bool true) ∧ Below w.heap.size w w' := by
  go_enter Try.func13, Try.ntmps13
  have HK : Hid (cdB cd1 = zero7 ∧ chk cd1 = 0 ∧ CdSmall cd1 ∧ CdIn cd1) := Lib.hid ⟨by decide, by decide, ⟨by decide, by decide, fun i hi => by obtain rfl : i = 0 := (by simp [cd1] at hi; omega); exact ⟨by decide, by decide, fun i hi => absurd hi (Nat.not_lt_zero _)⟩⟩, fun i hi => absurd hi (Nat.not_lt_zero _), fun i hi => by obtain rfl : i = 0 := (by simp [cd1] at hi; omega); exact ⟨fun i hi => absurd hi (Nat.not_lt_zero _), fun i hi => absurd hi (Nat.not_lt_zero _)⟩⟩
  go_wp2_with fail
  have hb0 := below_alloc w (.cells #[.slice none 0 0, .int .i64 0, .slice none 0 0] 57)
  have h0 : One1 (w.alloc (.cells #[.slice none 0 0, .int .i64 0, .slice none 0 0] 57)) w.heap.size := heap_alloc_new _ _
  generalize w.alloc (.cells #[.slice none 0 0, .int .i64 0, .slice none 0 0] 57) = w0 at *
  have HB0 := Lib.hid hb0; have H0 := Lib.hid h0
  clear hb0 h0
  refine (bytes_any cd1 HK.out.2.2.1 HK.out.2.2.2 (by rw [HK.out.1]; decide) (none, 0) (some ⟨w.heap.size, 0, none⟩, 1) w0.heap.size w0 ⟨fun i hi => absurd hi (Nat.not_lt_zero _), fun _ => rfl, Nat.le_refl _⟩ H0.out.at (Nat.le_refl _)).mono ?_
  rintro e w1 ⟨hp, hb1⟩
  obtain ⟨v, rfl, hown⟩ : ∃ v, e = .returned (.tuple #[v, .int .i64 0]) ∧ w1.ownsRow w0.heap.size 5 1 v 7 (bcells zero7) := by
    rcases hp with ⟨hne, _⟩ | ⟨_, v, h1, h2⟩
    · exact absurd HK.out.2.1 hne
    · rw [HK.out.1] at h2; exact ⟨v, h1, h2⟩
  have h6 := own_rdS hown
  obtain ⟨A, c, rfl, h7, h8, -⟩ := h6
  have HR := Lib.hid h7; have HN := Lib.hid h8
  have HB1 := Lib.hid (HB0.out.trans (hb1.mono HB0.out.size))
  clear hb1 h7 h8 hown hp
  go_wp2_with fail
  have hb2 := below_alloc w1 (.cells #[.int .u8 0, .int .u8 0, .int .u8 1, .int .u8 0, .int .u8 0, .int .u8 0, .int .u8 0] 5)
  have h2 := heap_alloc_new w1 (.cells #[.int .u8 0, .int .u8 0, .int .u8 1, .int .u8 0, .int .u8 0, .int .u8 0, .int .u8 0] 5)
  generalize w1.alloc (.cells #[.int .u8 0, .int .u8 0, .int .u8 1, .int .u8 0, .int .u8 0, .int .u8 0, .int .u8 0] 5) = w2 at *
  have HB2 := Lib.hid (HB1.out.trans (hb2.mono HB1.out.size)); have H2 := Lib.hid h2; have HQ := Lib.hid hb2
  clear hb2 h2
  have HZ : Hid (Bs w2 w2.heap.size (some ⟨w1.heap.size, 0, none⟩) zero7) := Lib.hid (fun j hj => ⟨w1.heap.size, 0, rfl, lt_blk H2.out, by
    rw [cell_blk H2.out]
    have : j = 0 ∨ j = 1 ∨ j = 2 ∨ j = 3 ∨ j = 4 ∨ j = 5 ∨ j = 6 := by have : zero7.length = 7 := rfl; omega
    rcases this with rfl | rfl | rfl | rfl | rfl | rfl | rfl <;> rfl⟩)
  refine (same_bytes zero7 zero7 A (some ⟨w1.heap.size, 0, none⟩) 7 7 c 7 w2 w1.heap.size w2.heap.size rfl rfl (HR.out.below HQ.out).bs (fun h => absurd (HN.out h) (by decide)) HZ.out (by intro h; cases h)).mono ?_
  rintro e w3 ⟨rfl, rfl⟩
  rw [show decide (zero7 = zero7) = true from decide_eq_true rfl]
  go_wp2_with fail
  refine (check0 _).mono ?_
  rintro e w3 ⟨rfl, hb3⟩
  have HB3 := Lib.hid (HB2.out.trans (hb3.mono HB2.out.size))
  clear hb3
  go_wp2_with fail
  go_ret
  exact ⟨rfl, HB3.out⟩
end Go.Proofs.Ytbmpjphemjponaa
