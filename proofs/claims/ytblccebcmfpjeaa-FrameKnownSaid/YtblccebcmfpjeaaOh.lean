/- the chapter's example; runs of frames. -/
import Derived.Test.YtblccebcmfpjeaaLs
import Derived.Lib.SlBytesConst
set_option linter.unusedSimpArgs false
set_option linter.unusedVariables false
namespace Go.Proofs.Ytblccebcmfpjeaa
open Go.RowKit

theorem Bs.blkfr {w : World} {g : Nat} {l : List UInt8} {t : TypeId} {fr : Nat × Nat} (h : w.heap[g]? = some (.cells (bcells l).toArray t fr)) : Bs w w.heap.size (some ⟨g, 0, none⟩) l := fun j hj => by
  refine ⟨g, 0, rfl, lt_blk h, ?_⟩
  obtain ⟨x, y⟩ := fr
  rw [cell_of_row w g _ _ _ (x, y) h]
  simp [bcells, List.getD_eq_getElem?_getD, hj]
theorem Bs.new (w : World) (l : List UInt8) (cs : Array Value) (t : TypeId) (fr : Nat × Nat) (hc : cs = (bcells l).toArray) : Bs (w.alloc (.cells cs t fr)) (w.alloc (.cells cs t fr)).heap.size (some ⟨w.heap.size, 0, none⟩) l := by
  subst hc
  exact Bs.blkfr (heap_alloc_new _ _)
theorem one_frame (r : List UInt8) (h : r.length ≤ 65536) : oneL (frameL r) = some r := by
  have := next_frame r [] h
  rw [List.append_nil] at this
  unfold oneL
  rw [this, frame_length]; simp
theorem one_at (l : List UInt8) (n : Nat) (hn : n = l.length) (hl : n ≤ 1000000) (A : Option Addr) (cap : Nat) (w : World) (hA : Bs w w.heap.size A l) (hcap : n ≤ cap) :
    Calls Try.prog 16 #[.slice A n cap] w (OneP l w) := by
  subst hn; exact one_any l hl A cap w hA hcap
theorem check_ex : check [49, 50, 51, 52, 53, 54, 55, 56, 57] = 3808858755 := by decide +kernel
theorem nil_ne {A : Option Addr} {l : List UInt8} (h : A = none → l.length = 0) : A = none → l = [] := fun e => List.eq_nil_of_length_eq_zero (h e)
set_option maxRecDepth 100000 in
set_option maxHeartbeats 2000000 in
theorem awake_any (w : World) : Calls Try.prog 8 #[] w fun e w' => e = .returned (.bool true) ∧ Below w.heap.size w w' := by
  have kc := fun (w : World) (C : Array Value) (n c : Nat) => Lib.run_convert_bytes_const (P := Try.prog) w 24 5 C n c Try.underlying24 Try.underlying5
  have KC := Lib.hid kc
  clear kc
  go_enter Try.func8, Try.ntmps8
  go_wp2_with fail
  generalize hW : World.alloc _ _ = W0
  have HB0 : Hid (Below w.heap.size w W0) := Lib.hid (by subst hW; exact below_alloc _ _)
  have Hb0 : Hid (Bs W0 W0.heap.size (some ⟨w.heap.size, 0, none⟩) [7]) := Lib.hid (by subst hW; exact Bs.new _ _ _ _ _ rfl)
  clear hW
  refine (frame_any [7] (by decide) _ 1 W0 Hb0.out (by intro h; cases h)).mono ?_
  rintro e w1 ⟨v1, rfl, ho1, hb1⟩
  obtain ⟨A1, c1, rfl, hr1, hn1, hc1⟩ := own_rd ho1
  have R1 := Lib.hid hr1.bs; have C1 := Lib.hid hc1
  have HB1 := Lib.hid (HB0.out.trans (hb1.mono HB0.out.size))
  clear hr1 hn1 hc1 ho1 hb1
  go_wp2_with fail
  refine (one_at (frameL [7]) 13 (by rw [frame_length]; rfl) (by decide) A1 c1 w1 R1.out C1.out).mono ?_
  rintro e w2 ⟨hb2, h2⟩
  rcases h2 with ⟨h2, _⟩ | ⟨r, v2, h2, rfl, ho2⟩
  · rw [one_frame [7] (by decide)] at h2; cases h2
  rw [one_frame [7] (by decide)] at h2
  injection h2 with h2
  subst h2
  obtain ⟨A2, c2, rfl, hr2, hn2, _⟩ := own_rd ho2
  have R2 := Lib.hid hr2; have N2 := Lib.hid hn2
  have HB2 := Lib.hid (HB1.out.trans (hb2.mono HB1.out.size))
  clear hr2 hn2 ho2 hb2
  have kc := KC.out
  go_wp2_with fail
  generalize hW : World.alloc _ _ = W3
  have HB23 : Hid (Below w2.heap.size w2 W3) := Lib.hid (by subst hW; exact below_alloc _ _)
  have Hb3 : Hid (Bs W3 W3.heap.size (some ⟨w2.heap.size, 0, none⟩) [49, 50, 51, 52, 53, 54, 55, 56, 57]) := Lib.hid (by subst hW; exact Bs.new _ _ _ _ _ rfl)
  clear hW kc
  refine (check_any [49, 50, 51, 52, 53, 54, 55, 56, 57] (by decide) _ _ _ W3 Hb3.out).mono ?_
  rintro e w4 ⟨rfl, rfl⟩
  rw [check_ex]
  go_wp2_with fail
  generalize hW : World.alloc _ _ = W4
  have HB34 : Hid (Below W3.heap.size W3 W4) := Lib.hid (by subst hW; exact below_alloc _ _)
  have Hb4 : Hid (Bs W4 W4.heap.size (some ⟨W3.heap.size, 0, none⟩) [7]) := Lib.hid (by subst hW; exact Bs.new _ _ _ _ _ rfl)
  clear hW
  have HB4 : Hid (Below w2.heap.size w2 W4) := Lib.hid (HB23.out.trans (HB34.out.mono HB23.out.size))
  refine (same_bytes [7] [7] A2 _ _ _ c2 _ W4 w2.heap.size W4.heap.size rfl rfl (R2.out.below HB4.out).bs (nil_ne N2.out) Hb4.out (by intro h; cases h)).mono ?_
  rintro e w5 ⟨rfl, rfl⟩
  go_wp2_with fail
  go_ret
  exact ⟨rfl, HB2.out.trans (HB4.out.mono HB2.out.size)⟩
end Go.Proofs.Ytblccebcmfpjeaa
