/- the chapter's example of disks (printed by gen_known19.py). -/
import Derived.Test.YtdmodhcbcpmadaaNh
import Derived.Test.YtdmodhcbcpmadaaMs
import Derived.Test.YtdmodhcbcpmadaaMt
import Derived.Test.YtdmodhcbcpmadaaMu
import Derived.Test.YtdmodhcbcpmadaaMv
import Derived.Test.YtdmodhcbcpmadaaKg
set_option linter.unusedSimpArgs false
set_option linter.unusedVariables false
namespace Go.Proofs.Ytdmodhcbcpmadaa
open Go.RowKit

/-- a disk, all of it new since w0. -/
structure D19 (w0 w : World) (p m : Nat) (d : Dk) : Prop where
  disk : DiskAt w p m d
  below : Below w0.heap.size w0 w
  hp : w0.heap.size ≤ p
  hm : w0.heap.size ≤ m
theorem below_dw {w0 w w' : World} {p m : Nat} (h : Below w0.heap.size w0 w) (hb : Dw w w' p m) (hp : w0.heap.size ≤ p) (hm : w0.heap.size ≤ m) : Below w0.heap.size w0 w' :=
  ⟨hb.os.trans h.os, hb.tape.trans h.tape, hb.output.trans h.output, Nat.le_trans h.size hb.size, fun k hk => (hb.block k (Nat.lt_of_lt_of_le hk h.size) (by omega) (by omega)).trans (h.block k hk)⟩
theorem D19.after {w0 w w' : World} {p m : Nat} {d : Dk} (h : D19 w0 w p m d) (hb : Below w.heap.size w w') : D19 w0 w' p m d := ⟨h.disk.below hb, h.below.trans (hb.mono h.below.size), h.hp, h.hm⟩
theorem D19.step {w0 w w' : World} {p m : Nat} {d d2 : Dk} (h : D19 w0 w p m d) (h2 : DiskAt w' p m d2) (hd : Dw w w' p m) : D19 w0 w' p m d2 := ⟨h2, below_dw h.below hd h.hp h.hm, h.hp, h.hm⟩
theorem D19.of {w0 w w' : World} {p m : Nat} {d d2 : Dk} {r : Dk × Nat} {en : Ending} {n : Nat} {z : Int} (h : D19 w0 w p m d) (hP : DiskP w p m r en w') (hr : r = (d2, n)) (hz : (n : Int) = z) : en = .returned (.int .i64 z) ∧ D19 w0 w' p m d2 ∧ Dw w w' p m := by
  subst hr hz
  exact ⟨hP.1, h.step hP.2.1 hP.2.2, hP.2.2⟩
theorem zs_lit {w : World} {g : Nat} (l : List Int) {T : TypeId} (h : w.heap[g]? = some (.cells (l.map fun z => .int .i64 z).toArray T (0, 0))) : Zs w w.heap.size (some ⟨g, 0, none⟩) l := fun i hi => ⟨g, 0, rfl, lt_blk h, by
  rw [cell_blk h]
  simp [List.getD_eq_getElem?_getD, hi]⟩
theorem d19_new {w w' : World} {n p m : Nat} (hd : DiskAt w' p m (emptyDk n)) (hb : Below w.heap.size w w') (hp : w.heap.size ≤ p) (hm : w.heap.size ≤ m) : D19 w w' p m (emptyDk n) := ⟨hd, hb, hp, hm⟩
set_option maxRecDepth 100000 in
set_option maxHeartbeats 8000000 in
theorem awake19 (w : World) : Calls Try.prog 26 #[] w fun e w' => e = .returned (.bool true) ∧ Below w.heap.size w w' := by
  have HNW := Lib.hid (new_at 10 (by decide) (by decide) w)
  go_enter Try.func26, Try.ntmps26
  go_wp2_with fail
  refine HNW.out.mono ?_
  rintro e w1 ⟨rfl, hd1, hb1⟩
  have HS1 := Lib.hid (d19_new hd1 hb1 (Nat.le_succ _) (Nat.le_refl _))
  clear hd1 hb1 HNW
  go_wp2_with fail
  obtain ⟨hbx, hby⟩ := boxes1 w1 (.cells #[.int .u8 1, .int .u8 2] 5)
  have HX2 := Lib.hid hbx
  have HS2 := Lib.hid (HS1.out.after hby)
  clear hbx hby
  generalize w1.alloc (.cells #[.int .u8 1, .int .u8 2] 5) = w2 at *
  clear HS1
  refine ((append_at HS2.out.disk (by decide) [97] (by decide) [1, 2] 2 rfl (by decide) (some ⟨w1.heap.size, 0, none⟩) 2 (Bs.blk (l := [1, 2]) HX2.out) (by intro h; cases h)).mono fun en W hP => HS2.out.of hP (d2 := (⟨10, [([97], ⟨[1, 2], 0, false⟩)], -1, 1⟩ : Dk)) (z := 0) rfl rfl).mono ?_
  rintro en w3 ⟨rfl, hs, hd⟩
  have HS3 := Lib.hid hs
  clear hs hd HS2
  go_wp2_with fail
  refine ((sync_at HS3.out.disk (by decide) [97] (by decide)).mono fun en W hP => HS3.out.of hP (d2 := (⟨10, [([97], ⟨[1, 2], 2, true⟩)], -1, 2⟩ : Dk)) (z := 0) rfl rfl).mono ?_
  rintro en w4 ⟨rfl, hs, hd⟩
  have HS4 := Lib.hid hs
  clear hs hd HS3
  go_wp2_with fail
  obtain ⟨hbx, hby⟩ := boxes1 w4 (.cells #[.int .u8 3, .int .u8 4] 5)
  have HX5 := Lib.hid hbx
  have HS5 := Lib.hid (HS4.out.after hby)
  clear hbx hby
  generalize w4.alloc (.cells #[.int .u8 3, .int .u8 4] 5) = w5 at *
  clear HS4
  refine ((append_at HS5.out.disk (by decide) [97] (by decide) [3, 4] 2 rfl (by decide) (some ⟨w4.heap.size, 0, none⟩) 2 (Bs.blk (l := [3, 4]) HX5.out) (by intro h; cases h)).mono fun en W hP => HS5.out.of hP (d2 := (⟨10, [([97], ⟨[1, 2, 3, 4], 2, true⟩)], -1, 3⟩ : Dk)) (z := 0) rfl rfl).mono ?_
  rintro en w6 ⟨rfl, hs, hd⟩
  have HS6 := Lib.hid hs
  clear hs hd HS5
  go_wp2_with fail
  refine (loose_at HS6.out.disk [97] (by decide)).mono ?_
  rintro en w7 ⟨rfl, hb⟩
  have HS7 := Lib.hid (HS6.out.after hb)
  clear hb HS6
  go_wp2_with fail
  refine (used_at HS7.out.disk).mono ?_
  rintro en w8 ⟨rfl, hb⟩
  have HS8 := Lib.hid (HS7.out.after hb)
  clear hb HS7
  go_wp2_with fail
  obtain ⟨hbx, hby⟩ := boxes1 w8 (.cells #[.int .i64 1] 3)
  have HX9 := Lib.hid hbx
  have HS9 := Lib.hid (HS8.out.after hby)
  clear hbx hby
  generalize w8.alloc (.cells #[.int .i64 1] 3) = w9 at *
  clear HS8
  refine (crash_at HS9.out.disk (by decide) [1] 1 rfl (by decide) (some ⟨w8.heap.size, 0, none⟩) 1 (zs_lit (g := w8.heap.size) [1] HX9.out)).mono ?_
  rintro en w10 ⟨rfl, hd1, hd⟩
  have HS10 := Lib.hid (HS9.out.step (d2 := (⟨10, [([97], ⟨[1, 2, 3], 3, true⟩)], -1, 3⟩ : Dk)) hd1 hd)
  clear hd1 hd HS9
  go_wp2_with fail
  refine (read_at HS10.out.disk [97] (by decide)).mono ?_
  rintro en w11 ⟨Ar, cr, rfl, hbs, hA0, hcap, hb⟩
  have HS11 := Lib.hid (HS10.out.after hb)
  have HBr : Hid (Bs w11 w11.heap.size Ar [1, 2, 3]) := Lib.hid hbs
  have HZr : Hid (Ar = none → ([1, 2, 3] : List UInt8) = []) := Lib.hid hA0
  clear hbs hA0 hcap hb HS10
  go_wp2_with fail
  obtain ⟨hbx, hby⟩ := boxes1 w11 (.cells #[.int .u8 1, .int .u8 2, .int .u8 3] 5)
  have HX12 := Lib.hid hbx
  have HS12 := Lib.hid (HS11.out.after hby)
  replace HBr := Lib.hid ((HBr.out.below hby).more hby.size)
  clear hbx hby
  generalize w11.alloc (.cells #[.int .u8 1, .int .u8 2, .int .u8 3] 5) = w12 at *
  clear HS11
  refine (same_bytes [1, 2, 3] [1, 2, 3] Ar (some ⟨w11.heap.size, 0, none⟩) 3 3 cr 3 w12 w12.heap.size w12.heap.size rfl rfl HBr.out HZr.out (Bs.blk (l := [1, 2, 3]) HX12.out) (by intro h; cases h)).mono ?_
  rintro en w13 ⟨rfl, rfl⟩
  go_wp2_with fail
  refine (loose_at HS12.out.disk [97] (by decide)).mono ?_
  rintro en w14 ⟨rfl, hb⟩
  have HS14 := Lib.hid (HS12.out.after hb)
  replace HBr := Lib.hid ((HBr.out.below hb).more hb.size)
  clear hb HS12
  go_wp2_with fail
  go_ret
  exact ⟨rfl, HS14.out.below⟩
end Go.Proofs.Ytdmodhcbcpmadaa
