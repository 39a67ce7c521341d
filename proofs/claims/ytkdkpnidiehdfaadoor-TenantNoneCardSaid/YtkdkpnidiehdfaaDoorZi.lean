/- TenantNone (printed by gen_ten24.py). -/
import Derived.Test.YtkdkpnidiehdfaaDoorZg
import Derived.Test.YtkdkpnidiehdfaaDoorZh
import Derived.Test.YtkdkpnidiehdfaaDoorBx
set_option linter.unusedSimpArgs false
set_option linter.unusedVariables false
namespace Go.Proofs.YtkdkpnidiehdfaaDoor
open Go.RowKit

set_option maxRecDepth 100000 in
set_option maxHeartbeats 8000000 in
theorem tenantnone_walk (c : Int) (l : List UInt8) (A : Option Addr) (cap : Nat) (w : World) (hk : KMem w) :
    Calls Tryd.prog 14 #[.int .i64 c, .slice A l.length cap] w fun e w' => e = .returned (.bool true) ∧ Below w.heap.size w w' := by
  have HK := Lib.hid hk
  clear hk
  go_enter Tryd.func14, Tryd.ntmps14
  go_wp2_with fail
  obtain ⟨b0_, b1_, hb_⟩ := boxes2 w (.cells #[.slice none 0 0, .map none] 95) (.cells #[.pointer none, .pointer (some ⟨w.heap.size, 0, none⟩)] 64)
  generalize (w.alloc (.cells #[.slice none 0 0, .map none] 95)).alloc (.cells #[.pointer none, .pointer (some ⟨w.heap.size, 0, none⟩)] 64) = w1 at *
  have T0 : Hid (∀ W, Below w1.heap.size w1 W → W.cell? ⟨w.heap.size, 0, none⟩ = some (.slice none 0 0) ∧ W.cell? ⟨w.heap.size, 1, none⟩ = some (.map none)) := Lib.hid (fun W hW => by have e := (hW.block _ (lt_blk b0_)).trans b0_; exact ⟨by rw [cell_blk e]; rfl, by rw [cell_blk e]; rfl⟩)
  have T1 : Hid (∀ W, Below w1.heap.size w1 W → W.cell? ⟨w.heap.size + 1, 0, none⟩ = some (.pointer none) ∧ W.cell? ⟨w.heap.size + 1, 1, none⟩ = some (.pointer (some ⟨w.heap.size, 0, none⟩))) := Lib.hid (fun W hW => by have e := (hW.block _ (lt_blk b1_)).trans b1_; exact ⟨by rw [cell_blk e]; rfl, by rw [cell_blk e]; rfl⟩)
  have HB1 := Lib.hid hb_
  clear hb_ b0_ b1_
  go_loopw [6, 7, 8, 9, 10, 11] (fun iv _ _ _ _ _ wr => Below w1.heap.size w1 wr ∧ (iv = .int .i64 0 ∨ iv = .int .i64 1 ∨ iv = .int .i64 2)) (fun iv _ _ _ _ _ _ => 2 - (RowKit.intOf iv).toNat)
  case atStart => exact ⟨Below.refl _ _, .inl rfl⟩
  case round =>
    obtain ⟨hb, hiv⟩ := hrel
    have HBW := Lib.hid hb
    obtain ⟨u1, u2⟩ := T0.out wr hb
    obtain ⟨u3, u4⟩ := T1.out wr hb
    clear hb
    rcases hiv with rfl | rfl | rfl
    · skip
      have HV0 : Hid (NoTab wr (.pointer none)) := Lib.hid (.inl rfl)
      have HB0 := HBW
      go_wp2_with fail
      refine (tauth_no HV0.out _ _).mono ?_
      rintro e x1 ⟨rfl, hb⟩
      have HV1 := Lib.hid (HV0.out.below hb); have HB1 := Lib.hid (HB0.out.trans (hb.mono HB0.out.size))
      clear hb
      go_wp2_with fail
      refine (twho_no HV1.out _).mono ?_
      rintro e x2 ⟨rfl, hb⟩
      have HV2 := Lib.hid (HV1.out.below hb); have HB2 := Lib.hid (HB1.out.trans (hb.mono HB1.out.size))
      clear hb
      go_wp2_with fail
      refine (tleave_no HV2.out _).mono ?_
      rintro e x3 ⟨rfl, hb⟩
      have HV3 := Lib.hid (HV2.out.below hb); have HB3 := Lib.hid (HB2.out.trans (hb.mono HB2.out.size))
      clear hb
      go_wp2_with fail
      refine (tconns_no HV3.out _).mono ?_
      rintro e x4 ⟨rfl, hb⟩
      have HV4 := Lib.hid (HV3.out.below hb); have HB4 := Lib.hid (HB3.out.trans (hb.mono HB3.out.size))
      clear hb
      go_wp2_with fail
      refine (tlen_no HV4.out).mono ?_
      rintro e x5 ⟨rfl, hb⟩
      have HV5 := Lib.hid (HV4.out.below hb); have HB5 := Lib.hid (HB4.out.trans (hb.mono HB4.out.size))
      clear hb
      go_wp2_with fail
      refine (tclear_no HV5.out).mono ?_
      rintro e x6 ⟨rfl, hb⟩
      have HV6 := Lib.hid (HV5.out.below hb); have HB6 := Lib.hid (HB5.out.trans (hb.mono HB5.out.size))
      clear hb
      go_wp2_with fail
      go_roundw
      case rel => exact ⟨HB6.out, .inr (.inl (by go_num))⟩
      case measure => simp [RowKit.intOf]
    · skip
      have HV0 : Hid (NoTab wr (.pointer (some ⟨w.heap.size, 0, none⟩))) := Lib.hid (.inr ⟨_, rfl, u2⟩)
      have HB0 := HBW
      go_wp2_with fail
      refine (tauth_no HV0.out _ _).mono ?_
      rintro e x1 ⟨rfl, hb⟩
      have HV1 := Lib.hid (HV0.out.below hb); have HB1 := Lib.hid (HB0.out.trans (hb.mono HB0.out.size))
      clear hb
      go_wp2_with fail
      refine (twho_no HV1.out _).mono ?_
      rintro e x2 ⟨rfl, hb⟩
      have HV2 := Lib.hid (HV1.out.below hb); have HB2 := Lib.hid (HB1.out.trans (hb.mono HB1.out.size))
      clear hb
      go_wp2_with fail
      refine (tleave_no HV2.out _).mono ?_
      rintro e x3 ⟨rfl, hb⟩
      have HV3 := Lib.hid (HV2.out.below hb); have HB3 := Lib.hid (HB2.out.trans (hb.mono HB2.out.size))
      clear hb
      go_wp2_with fail
      refine (tconns_no HV3.out _).mono ?_
      rintro e x4 ⟨rfl, hb⟩
      have HV4 := Lib.hid (HV3.out.below hb); have HB4 := Lib.hid (HB3.out.trans (hb.mono HB3.out.size))
      clear hb
      go_wp2_with fail
      refine (tlen_no HV4.out).mono ?_
      rintro e x5 ⟨rfl, hb⟩
      have HV5 := Lib.hid (HV4.out.below hb); have HB5 := Lib.hid (HB4.out.trans (hb.mono HB4.out.size))
      clear hb
      go_wp2_with fail
      refine (tclear_no HV5.out).mono ?_
      rintro e x6 ⟨rfl, hb⟩
      have HV6 := Lib.hid (HV5.out.below hb); have HB6 := Lib.hid (HB5.out.trans (hb.mono HB5.out.size))
      clear hb
      go_wp2_with fail
      go_roundw
      case rel => exact ⟨HB6.out, .inr (.inr (by go_num))⟩
      case measure => simp [RowKit.intOf]
    · have HB2 : Hid (Below w.heap.size w wr) := Lib.hid (HB1.out.trans (HBW.out.mono HB1.out.size))
      go_wp2_with fail
      refine (awake_at wr (HK.out.ext HB2.out)).mono ?_
      rintro e w2 ⟨rfl, hb2⟩
      have HB3 := Lib.hid (HB2.out.trans (hb2.mono HB2.out.size))
      clear hb2
      go_wp2_with fail
      go_ret
      exact ⟨rfl, HB3.out⟩
end Go.Proofs.YtkdkpnidiehdfaaDoor
