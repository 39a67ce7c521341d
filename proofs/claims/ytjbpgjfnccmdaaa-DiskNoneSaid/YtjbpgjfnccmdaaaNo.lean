/- DiskNone (printed by gen_none19.py). -/
import Derived.Test.YtjbpgjfnccmdaaaNn
import Derived.Test.YtjbpgjfnccmdaaaNi
set_option linter.unusedSimpArgs false
set_option linter.unusedVariables false
namespace Go.Proofs.Ytjbpgjfnccmdaaa
open Go.RowKit

set_option maxRecDepth 100000 in
set_option maxHeartbeats 8000000 in
theorem disknone_walk (s0 : ByteArray) (l : List UInt8) (A : Option Addr) (cap : Nat) (n : Int) (w : World) (hs : s0.size ≤ maxLen) (hA : Bs w w.heap.size A l) (hA0 : A = none → l = []) (hn : (-9223372036854775808 : Int) ≤ n ∧ n ≤ 9223372036854775807) :
    Calls Try.prog 9 #[.string s0, .slice A l.length cap, .int .i64 n] w fun e w' => e = .returned (.bool true) ∧ Below w.heap.size w w' := by
  clear hA hA0 hs
  go_enter Try.func9, Try.ntmps9
  go_wp2_with fail
  obtain ⟨b0_, b1_, hb_⟩ := boxes2 w (.cells #[.int .i64 0, .map none, .int .i64 0, .int .i64 0] 44) (.cells #[.pointer none, .pointer (some ⟨w.heap.size, 0, none⟩)] 24)
  generalize (w.alloc (.cells #[.int .i64 0, .map none, .int .i64 0, .int .i64 0] 44)).alloc (.cells #[.pointer none, .pointer (some ⟨w.heap.size, 0, none⟩)] 24) = w1 at *
  have T0 : Hid (∀ W, Below w1.heap.size w1 W → W.cell? ⟨w.heap.size, 0, none⟩ = some (.int .i64 0) ∧ W.cell? ⟨w.heap.size, 1, none⟩ = some (.map none) ∧ W.cell? ⟨w.heap.size, 2, none⟩ = some (.int .i64 0) ∧ W.cell? ⟨w.heap.size, 3, none⟩ = some (.int .i64 0)) := Lib.hid (fun W hW => by have e := (hW.block _ (lt_blk b0_)).trans b0_; exact ⟨by rw [cell_blk e]; rfl, by rw [cell_blk e]; rfl, by rw [cell_blk e]; rfl, by rw [cell_blk e]; rfl⟩)
  have T1 : Hid (∀ W, Below w1.heap.size w1 W → W.cell? ⟨w.heap.size + 1, 0, none⟩ = some (.pointer none) ∧ W.cell? ⟨w.heap.size + 1, 1, none⟩ = some (.pointer (some ⟨w.heap.size, 0, none⟩))) := Lib.hid (fun W hW => by have e := (hW.block _ (lt_blk b1_)).trans b1_; exact ⟨by rw [cell_blk e]; rfl, by rw [cell_blk e]; rfl⟩)
  have HB := Lib.hid hb_
  clear hb_ b0_ b1_
  go_loopw [8, 9, 10, 11, 12] (fun iv _ _ _ _ wr => Below w1.heap.size w1 wr ∧ (iv = .int .i64 0 ∨ iv = .int .i64 1 ∨ iv = .int .i64 2)) (fun iv _ _ _ _ _ => 2 - (intOf iv).toNat)
  case atStart => exact ⟨Below.refl _ _, .inl rfl⟩
  case round =>
    obtain ⟨hb, hiv⟩ := hrel
    have HBW := Lib.hid hb
    have t1 := T1.out wr hb
    obtain ⟨u1, u2⟩ := t1
    have t0 := (T0.out wr hb).2.1
    clear hb
    rcases hiv with rfl | rfl | rfl
    · have HDV : Hid (DNone wr (.pointer none)) := Lib.hid (.inl rfl)
      go_wp2_with fail
      refine (read_none HDV.out ).mono ?_
      rintro e w9 ⟨rfl, rfl⟩
      go_wp2_with fail
      refine (append_none HDV.out s0 A l.length cap).mono ?_
      rintro e v1 ⟨rfl, hb2⟩
      have HDV1 := Lib.hid (HDV.out.below hb2)
      have HBW1 := Lib.hid (HBW.out.trans (hb2.mono HBW.out.size))
      clear hb2 HDV HBW
      go_wp2_with fail
      refine (cut_none HDV1.out s0 n).mono ?_
      rintro e v2 ⟨rfl, hb2⟩
      have HDV2 := Lib.hid (HDV1.out.below hb2)
      have HBW2 := Lib.hid (HBW1.out.trans (hb2.mono HBW1.out.size))
      clear hb2 HDV1 HBW1
      go_wp2_with fail
      refine (sync_none HDV2.out s0).mono ?_
      rintro e v3 ⟨rfl, hb2⟩
      have HDV3 := Lib.hid (HDV2.out.below hb2)
      have HBW3 := Lib.hid (HBW2.out.trans (hb2.mono HBW2.out.size))
      clear hb2 HDV2 HBW2
      go_wp2_with fail
      refine (rename_none HDV3.out s0 s0).mono ?_
      rintro e v4 ⟨rfl, hb2⟩
      have HDV4 := Lib.hid (HDV3.out.below hb2)
      have HBW4 := Lib.hid (HBW3.out.trans (hb2.mono HBW3.out.size))
      clear hb2 HDV3 HBW3
      go_wp2_with fail
      refine (remove_none HDV4.out s0).mono ?_
      rintro e v5 ⟨rfl, hb2⟩
      have HDV5 := Lib.hid (HDV4.out.below hb2)
      have HBW5 := Lib.hid (HBW4.out.trans (hb2.mono HBW4.out.size))
      clear hb2 HDV4 HBW4
      go_wp2_with fail
      refine (stop_none HDV5.out ).mono ?_
      rintro e w9 ⟨rfl, rfl⟩
      go_wp2_with fail
      refine (crash_none HDV5.out ).mono ?_
      rintro e w9 ⟨rfl, rfl⟩
      go_wp2_with fail
      refine (names_none HDV5.out ).mono ?_
      rintro e w9 ⟨rfl, rfl⟩
      go_wp2_with fail
      refine (used_none HDV5.out ).mono ?_
      rintro e w9 ⟨rfl, rfl⟩
      go_wp2_with fail
      refine (dsize_none HDV5.out ).mono ?_
      rintro e w9 ⟨rfl, rfl⟩
      go_wp2_with fail
      refine (loose_none HDV5.out ).mono ?_
      rintro e w9 ⟨rfl, rfl⟩
      go_wp2_with fail
      refine (stopped_none HDV5.out ).mono ?_
      rintro e w9 ⟨rfl, rfl⟩
      go_wp2_with fail
      refine (writes_none HDV5.out ).mono ?_
      rintro e w9 ⟨rfl, rfl⟩
      go_wp2_with fail
      refine (clone_none HDV5.out ).mono ?_
      rintro e w9 ⟨rfl, rfl⟩
      go_wp2_with fail
      go_roundw
      case rel => exact ⟨HBW5.out, .inr (.inl (by go_num))⟩
      case measure => simp [intOf]
    · have HDV : Hid (DNone wr (.pointer (some ⟨w.heap.size, 0, none⟩))) := Lib.hid (.inr ⟨_, rfl, t0⟩)
      go_wp2_with fail
      refine (read_none HDV.out ).mono ?_
      rintro e w9 ⟨rfl, rfl⟩
      go_wp2_with fail
      refine (append_none HDV.out s0 A l.length cap).mono ?_
      rintro e v1 ⟨rfl, hb2⟩
      have HDV1 := Lib.hid (HDV.out.below hb2)
      have HBW1 := Lib.hid (HBW.out.trans (hb2.mono HBW.out.size))
      clear hb2 HDV HBW
      go_wp2_with fail
      refine (cut_none HDV1.out s0 n).mono ?_
      rintro e v2 ⟨rfl, hb2⟩
      have HDV2 := Lib.hid (HDV1.out.below hb2)
      have HBW2 := Lib.hid (HBW1.out.trans (hb2.mono HBW1.out.size))
      clear hb2 HDV1 HBW1
      go_wp2_with fail
      refine (sync_none HDV2.out s0).mono ?_
      rintro e v3 ⟨rfl, hb2⟩
      have HDV3 := Lib.hid (HDV2.out.below hb2)
      have HBW3 := Lib.hid (HBW2.out.trans (hb2.mono HBW2.out.size))
      clear hb2 HDV2 HBW2
      go_wp2_with fail
      refine (rename_none HDV3.out s0 s0).mono ?_
      rintro e v4 ⟨rfl, hb2⟩
      have HDV4 := Lib.hid (HDV3.out.below hb2)
      have HBW4 := Lib.hid (HBW3.out.trans (hb2.mono HBW3.out.size))
      clear hb2 HDV3 HBW3
      go_wp2_with fail
      refine (remove_none HDV4.out s0).mono ?_
      rintro e v5 ⟨rfl, hb2⟩
      have HDV5 := Lib.hid (HDV4.out.below hb2)
      have HBW5 := Lib.hid (HBW4.out.trans (hb2.mono HBW4.out.size))
      clear hb2 HDV4 HBW4
      go_wp2_with fail
      refine (stop_none HDV5.out ).mono ?_
      rintro e w9 ⟨rfl, rfl⟩
      go_wp2_with fail
      refine (crash_none HDV5.out ).mono ?_
      rintro e w9 ⟨rfl, rfl⟩
      go_wp2_with fail
      refine (names_none HDV5.out ).mono ?_
      rintro e w9 ⟨rfl, rfl⟩
      go_wp2_with fail
      refine (used_none HDV5.out ).mono ?_
      rintro e w9 ⟨rfl, rfl⟩
      go_wp2_with fail
      refine (dsize_none HDV5.out ).mono ?_
      rintro e w9 ⟨rfl, rfl⟩
      go_wp2_with fail
      refine (loose_none HDV5.out ).mono ?_
      rintro e w9 ⟨rfl, rfl⟩
      go_wp2_with fail
      refine (stopped_none HDV5.out ).mono ?_
      rintro e w9 ⟨rfl, rfl⟩
      go_wp2_with fail
      refine (writes_none HDV5.out ).mono ?_
      rintro e w9 ⟨rfl, rfl⟩
      go_wp2_with fail
      refine (clone_none HDV5.out ).mono ?_
      rintro e w9 ⟨rfl, rfl⟩
      go_wp2_with fail
      go_roundw
      case rel => exact ⟨HBW5.out, .inr (.inr (by go_num))⟩
      case measure => simp [intOf]
    · have HAW := Lib.hid (awake19 wr)
      go_wp2_with fail
      refine HAW.out.mono ?_
      rintro e w2 ⟨rfl, hb2⟩
      have HB2 := Lib.hid (HB.out.trans ((HBW.out.trans (hb2.mono HBW.out.size)).mono HB.out.size))
      clear hb2
      go_wp2_with fail
      go_ret
      exact ⟨rfl, HB2.out⟩
end Go.Proofs.Ytjbpgjfnccmdaaa
