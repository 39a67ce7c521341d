/- DiskKnown (printed by gen_known19.py). -/
import Derived.Test.YtjbpgjfnccmdaaaNk
set_option linter.unusedSimpArgs false
set_option linter.unusedVariables false
namespace Go.Proofs.Ytjbpgjfnccmdaaa
open Go.RowKit

set_option maxRecDepth 100000 in
set_option maxHeartbeats 8000000 in
theorem diskknown_walk (w : World) : Calls Try.prog 6 #[] w fun e w' => e = .returned (.bool true) ∧ Below w.heap.size w w' := by
  have HNW := Lib.hid (new_at 10 (by decide) (by decide) w)
  have hmk := fun W => run_make_el E5 8 8 rfl (by decide) (by decide) W
  go_enter Try.func6, Try.ntmps6
  go_wp2_with fail
  refine HNW.out.mono ?_
  rintro e w1 ⟨rfl, hd1, hb1⟩
  have HS1 := Lib.hid (d19_new hd1 hb1 (Nat.le_succ _) (Nat.le_refl _))
  clear hd1 hb1 HNW
  go_wp2_with fail
  obtain ⟨hbx, hby⟩ := boxes1 w1 (.cells #[.int .u8 1, .int .u8 2] 5)
  have HX2 := Lib.hid hbx
  have HS2 := Lib.hid (HS1.out.after hby)
  clear hbx hby
  generalize w1.alloc (.cells #[.int .u8 1, .int .u8 2] 5) = w2 at *
  clear HS1
  refine ((append_at HS2.out.disk (by decide) [97] (by decide) [1, 2] 2 rfl (by decide) (some ⟨w1.heap.size, 0, none⟩) 2 (Bs.blk (l := [1, 2]) HX2.out) (by intro h; cases h)).mono fun en W hP => HS2.out.of hP (d2 := (⟨10, [([97], ⟨[1, 2], 0, false⟩)], -1, 1⟩ : Dk)) (z := 0) rfl rfl).mono ?_
  rintro en w3 ⟨rfl, hs, hd⟩
  have HS3 := Lib.hid hs
  clear hs hd HS2
  go_wp2_with fail
  refine ((sync_at HS3.out.disk (by decide) [97] (by decide)).mono fun en W hP => HS3.out.of hP (d2 := (⟨10, [([97], ⟨[1, 2], 2, true⟩)], -1, 2⟩ : Dk)) (z := 0) rfl rfl).mono ?_
  rintro en w4 ⟨rfl, hs, hd⟩
  have HS4 := Lib.hid hs
  clear hs hd HS3
  go_wp2_with fail
  obtain ⟨hbx, hby⟩ := boxes1 w4 (.cells #[.int .u8 3, .int .u8 4] 5)
  have HX5 := Lib.hid hbx
  have HS5 := Lib.hid (HS4.out.after hby)
  clear hbx hby
  generalize w4.alloc (.cells #[.int .u8 3, .int .u8 4] 5) = w5 at *
  clear HS4
  refine ((append_at HS5.out.disk (by decide) [97] (by decide) [3, 4] 2 rfl (by decide) (some ⟨w4.heap.size, 0, none⟩) 2 (Bs.blk (l := [3, 4]) HX5.out) (by intro h; cases h)).mono fun en W hP => HS5.out.of hP (d2 := (⟨10, [([97], ⟨[1, 2, 3, 4], 2, true⟩)], -1, 3⟩ : Dk)) (z := 0) rfl rfl).mono ?_
  rintro en w6 ⟨rfl, hs, hd⟩
  have HS6 := Lib.hid hs
  clear hs hd HS5
  go_wp2_with fail
  obtain ⟨hbx, hby⟩ := boxes1 w6 (.cells #[.int .i64 1] 3)
  have HX7 := Lib.hid hbx
  have HS7 := Lib.hid (HS6.out.after hby)
  clear hbx hby
  generalize w6.alloc (.cells #[.int .i64 1] 3) = w7 at *
  clear HS6
  refine (crash_at HS7.out.disk (by decide) [1] 1 rfl (by decide) (some ⟨w6.heap.size, 0, none⟩) 1 (zs_lit (g := w6.heap.size) [1] HX7.out)).mono ?_
  rintro en w8 ⟨rfl, hd1, hd⟩
  have HS8 := Lib.hid (HS7.out.step (d2 := (⟨10, [([97], ⟨[1, 2, 3], 3, true⟩)], -1, 3⟩ : Dk)) hd1 hd)
  clear hd1 hd HS7
  go_wp2_with fail
  obtain ⟨hbx, hby⟩ := boxes1 w8 (.cells #[.int .u8 9] 5)
  have HX9 := Lib.hid hbx
  have HS9 := Lib.hid (HS8.out.after hby)
  clear hbx hby
  generalize w8.alloc (.cells #[.int .u8 9] 5) = w9 at *
  clear HS8
  refine ((append_at HS9.out.disk (by decide) [98] (by decide) [9] 1 rfl (by decide) (some ⟨w8.heap.size, 0, none⟩) 1 (Bs.blk (l := [9]) HX9.out) (by intro h; cases h)).mono fun en W hP => HS9.out.of hP (d2 := (⟨10, [([97], ⟨[1, 2, 3], 3, true⟩), ([98], ⟨[9], 0, false⟩)], -1, 4⟩ : Dk)) (z := 0) rfl rfl).mono ?_
  rintro en w10 ⟨rfl, hs, hd⟩
  have HS10 := Lib.hid hs
  clear hs hd HS9
  go_wp2_with fail
  refine (crash_at HS10.out.disk (by decide) [] 0 rfl (by decide) none 0 (fun i h => absurd h (by simp))).mono ?_
  rintro en w11 ⟨rfl, hd1, hd⟩
  have HS11 := Lib.hid (HS10.out.step (d2 := (⟨10, [([97], ⟨[1, 2, 3], 3, true⟩)], -1, 4⟩ : Dk)) hd1 hd)
  clear hd1 hd HS10
  go_wp2_with fail
  refine (names_at HS11.out.disk).mono ?_
  rintro en w12 ⟨vn, rfl, ho, hb⟩
  obtain ⟨An, cn, rfl, hrn, _, _⟩ := own_rd ho
  have HRN : Hid (Rd w12 w12.heap.size An ([[97]].map encStr)) := Lib.hid hrn
  have HS12 := Lib.hid (HS11.out.after hb)
  clear ho hb hrn HS11
  go_wp2_with fail
  obtain ⟨hbx, hby⟩ := boxes1 w12 (.cells #[.string ⟨#[97]⟩] 9)
  have HX13 := Lib.hid hbx
  have HS13 := Lib.hid (HS12.out.after hby)
  replace HRN := Lib.hid ((HRN.out.below hby).more hby.size)
  clear hbx hby
  generalize w12.alloc (.cells #[.string ⟨#[97]⟩] 9) = w13 at *
  clear HS12
  refine (same_texts [[97]] 1 rfl (by decide) An (some ⟨w12.heap.size, 0, none⟩) cn 1 w13.heap.size w13 HRN.out (rd_texts [[97]] HX13.out) (Nat.le_refl _)).mono ?_
  rintro en w14 ⟨rfl, hb⟩
  have HS14 := Lib.hid (HS13.out.after hb)
  clear hb HS13
  go_wp2_with fail
  obtain ⟨hbx, hby⟩ := boxes1 w14 (.cells #[.int .u8 0, .int .u8 0, .int .u8 0, .int .u8 0, .int .u8 0, .int .u8 0, .int .u8 0, .int .u8 0] 5)
  have HX15 := Lib.hid hbx
  have HS15 := Lib.hid (HS14.out.after hby)
  clear hbx hby
  generalize w14.alloc (.cells #[.int .u8 0, .int .u8 0, .int .u8 0, .int .u8 0, .int .u8 0, .int .u8 0, .int .u8 0, .int .u8 0] 5) = w15 at *
  clear HS14
  refine ((append_at HS15.out.disk (by decide) [97] (by decide) [0,0,0,0,0,0,0,0] 8 rfl (by decide) (some ⟨w14.heap.size, 0, none⟩) 8 (Bs.blk (l := [0,0,0,0,0,0,0,0]) HX15.out) (by intro h; cases h)).mono fun en W hP => HS15.out.of hP (d2 := (⟨10, [([97], ⟨[1, 2, 3], 3, true⟩)], -1, 4⟩ : Dk)) (z := 8) rfl rfl).mono ?_
  rintro en w16 ⟨rfl, hs, hd⟩
  have HS16 := Lib.hid hs
  clear hs hd HS15
  go_wp2_with fail
  refine ((cut_at HS16.out.disk (by decide) [97] (by decide) 9 (by decide)).mono fun en W hP => HS16.out.of hP (d2 := (⟨10, [([97], ⟨[1, 2, 3], 3, true⟩)], -1, 4⟩ : Dk)) (z := 2) rfl rfl).mono ?_
  rintro en w17 ⟨rfl, hs, hd⟩
  have HS17 := Lib.hid hs
  clear hs hd HS16
  go_wp2_with fail
  refine ((cut_at HS17.out.disk (by decide) [97] (by decide) 1 (by decide)).mono fun en W hP => HS17.out.of hP (d2 := (⟨10, [([97], ⟨[1], 1, true⟩)], -1, 5⟩ : Dk)) (z := 0) rfl rfl).mono ?_
  rintro en w18 ⟨rfl, hs, hd⟩
  have HS18 := Lib.hid hs
  clear hs hd HS17
  go_wp2_with fail
  refine ((rename_at HS18.out.disk (by decide) [97] (by decide) [99] (by decide)).mono fun en W hP => HS18.out.of hP (d2 := (⟨10, [([99], ⟨[1], 1, true⟩)], -1, 6⟩ : Dk)) (z := 0) rfl rfl).mono ?_
  rintro en w19 ⟨rfl, hs, hd⟩
  have HS19 := Lib.hid hs
  clear hs hd HS18
  go_wp2_with fail
  refine (read_at HS19.out.disk [99] (by decide)).mono ?_
  rintro en w20 ⟨Aone, cone, rfl, hbs, hA0, hcap, hb⟩
  have HS20 := Lib.hid (HS19.out.after hb)
  have HBone : Hid (Bs w20 w20.heap.size Aone [1]) := Lib.hid hbs
  have HZone : Hid (Aone = none → ([1] : List UInt8) = []) := Lib.hid hA0
  clear hbs hA0 hcap hb HS19
  go_wp2_with fail
  refine ((stop_at HS20.out.disk 1 (by decide)).mono fun en W hP => HS20.out.of hP (d2 := (⟨10, [([99], ⟨[1], 1, true⟩)], 1, 6⟩ : Dk)) (z := 0) rfl rfl).mono ?_
  rintro en w21 ⟨rfl, hs, hd⟩
  have HS21 := Lib.hid hs
  replace HBone := Lib.hid ((HS20.out.disk.bs hd (Nat.le_refl _) HBone.out).more hd.size)
  clear hs hd HS20
  go_wp2_with fail
  obtain ⟨hbx, hby⟩ := boxes1 w21 (.cells #[.int .u8 5] 5)
  have HX22 := Lib.hid hbx
  have HS22 := Lib.hid (HS21.out.after hby)
  replace HBone := Lib.hid ((HBone.out.below hby).more hby.size)
  clear hbx hby
  generalize w21.alloc (.cells #[.int .u8 5] 5) = w22 at *
  clear HS21
  refine ((append_at HS22.out.disk (by decide) [99] (by decide) [5] 1 rfl (by decide) (some ⟨w21.heap.size, 0, none⟩) 1 (Bs.blk (l := [5]) HX22.out) (by intro h; cases h)).mono fun en W hP => HS22.out.of hP (d2 := (⟨10, [([99], ⟨[1, 5], 1, true⟩)], 0, 7⟩ : Dk)) (z := 0) rfl rfl).mono ?_
  rintro en w23 ⟨rfl, hs, hd⟩
  have HS23 := Lib.hid hs
  replace HBone := Lib.hid ((HS22.out.disk.bs hd (Nat.le_refl _) HBone.out).more hd.size)
  clear hs hd HS22
  go_wp2_with fail
  refine (stopped_at HS23.out.disk).mono ?_
  rintro en w24 ⟨rfl, rfl⟩
  
  go_wp2_with fail
  refine ((sync_at HS23.out.disk (by decide) [99] (by decide)).mono fun en W hP => HS23.out.of hP (d2 := (⟨10, [([99], ⟨[1, 5], 1, true⟩)], 0, 7⟩ : Dk)) (z := 13) rfl rfl).mono ?_
  rintro en w25 ⟨rfl, hs, hd⟩
  have HS25 := Lib.hid hs
  replace HBone := Lib.hid ((HS23.out.disk.bs hd (Nat.le_refl _) HBone.out).more hd.size)
  clear hs hd HS23
  go_wp2_with fail
  refine (read_at HS25.out.disk [99] (by decide)).mono ?_
  rintro en w26 ⟨Atwo, ctwo, rfl, hbs, hA0, hcap, hb⟩
  have HS26 := Lib.hid (HS25.out.after hb)
  replace HBone := Lib.hid ((HBone.out.below hb).more hb.size)
  have HBtwo : Hid (Bs w26 w26.heap.size Atwo [1, 5]) := Lib.hid hbs
  have HZtwo : Hid (Atwo = none → ([1, 5] : List UInt8) = []) := Lib.hid hA0
  clear hbs hA0 hcap hb HS25
  go_wp2_with fail
  obtain ⟨hbx, hby⟩ := boxes1 w26 (.cells #[.int .i64 9] 3)
  have HX27 := Lib.hid hbx
  have HS27 := Lib.hid (HS26.out.after hby)
  replace HBone := Lib.hid ((HBone.out.below hby).more hby.size)
  replace HBtwo := Lib.hid ((HBtwo.out.below hby).more hby.size)
  clear hbx hby
  generalize w26.alloc (.cells #[.int .i64 9] 3) = w27 at *
  clear HS26
  refine (crash_at HS27.out.disk (by decide) [9] 1 rfl (by decide) (some ⟨w26.heap.size, 0, none⟩) 1 (zs_lit (g := w26.heap.size) [9] HX27.out)).mono ?_
  rintro en w28 ⟨rfl, hd1, hd⟩
  have HS28 := Lib.hid (HS27.out.step (d2 := (⟨10, [([99], ⟨[1, 5], 2, true⟩)], -1, 7⟩ : Dk)) hd1 hd)
  replace HBone := Lib.hid ((HS27.out.disk.bs hd (Nat.le_refl _) HBone.out).more hd.size)
  replace HBtwo := Lib.hid ((HS27.out.disk.bs hd (Nat.le_refl _) HBtwo.out).more hd.size)
  clear hd1 hd HS27
  go_wp2_with fail
  refine (read_at HS28.out.disk [99] (by decide)).mono ?_
  rintro en w29 ⟨Athree, cthree, rfl, hbs, hA0, hcap, hb⟩
  have HS29 := Lib.hid (HS28.out.after hb)
  replace HBone := Lib.hid ((HBone.out.below hb).more hb.size)
  replace HBtwo := Lib.hid ((HBtwo.out.below hb).more hb.size)
  have HBthree : Hid (Bs w29 w29.heap.size Athree [1, 5]) := Lib.hid hbs
  have HZthree : Hid (Athree = none → ([1, 5] : List UInt8) = []) := Lib.hid hA0
  clear hbs hA0 hcap hb HS28
  go_wp2_with fail
  refine (new_bad _).mono ?_
  rintro en w30 ⟨rfl, rfl⟩
  go_wp2_with fail
  obtain ⟨hbx, hby⟩ := boxes1 w30 (.cells #[.int .u8 1] 5)
  have HX31 := Lib.hid hbx
  have HS31 := Lib.hid (HS29.out.after hby)
  replace HBone := Lib.hid ((HBone.out.below hby).more hby.size)
  replace HBtwo := Lib.hid ((HBtwo.out.below hby).more hby.size)
  replace HBthree := Lib.hid ((HBthree.out.below hby).more hby.size)
  clear hbx hby
  generalize w30.alloc (.cells #[.int .u8 1] 5) = w31 at *
  clear HS29
  refine ((append_at HS31.out.disk (by decide) [67] (by decide) [1] 1 rfl (by decide) (some ⟨w30.heap.size, 0, none⟩) 1 (Bs.blk (l := [1]) HX31.out) (by intro h; cases h)).mono fun en W hP => HS31.out.of hP (d2 := (⟨10, [([99], ⟨[1, 5], 2, true⟩)], -1, 7⟩ : Dk)) (z := 2) rfl rfl).mono ?_
  rintro en w32 ⟨rfl, hs, hd⟩
  have HS32 := Lib.hid hs
  replace HBone := Lib.hid ((HS31.out.disk.bs hd (Nat.le_refl _) HBone.out).more hd.size)
  replace HBtwo := Lib.hid ((HS31.out.disk.bs hd (Nat.le_refl _) HBtwo.out).more hd.size)
  replace HBthree := Lib.hid ((HS31.out.disk.bs hd (Nat.le_refl _) HBthree.out).more hd.size)
  clear hs hd HS31
  go_wp2_with fail
  refine ((sync_at HS32.out.disk (by decide) [120] (by decide)).mono fun en W hP => HS32.out.of hP (d2 := (⟨10, [([99], ⟨[1, 5], 2, true⟩)], -1, 7⟩ : Dk)) (z := 6) rfl rfl).mono ?_
  rintro en w33 ⟨rfl, hs, hd⟩
  have HS33 := Lib.hid hs
  replace HBone := Lib.hid ((HS32.out.disk.bs hd (Nat.le_refl _) HBone.out).more hd.size)
  replace HBtwo := Lib.hid ((HS32.out.disk.bs hd (Nat.le_refl _) HBtwo.out).more hd.size)
  replace HBthree := Lib.hid ((HS32.out.disk.bs hd (Nat.le_refl _) HBthree.out).more hd.size)
  clear hs hd HS32
  go_wp2_with fail
  refine ((stop_at HS33.out.disk (-1) (by decide)).mono fun en W hP => HS33.out.of hP (d2 := (⟨10, [([99], ⟨[1, 5], 2, true⟩)], -1, 7⟩ : Dk)) (z := 2) rfl rfl).mono ?_
  rintro en w34 ⟨rfl, hs, hd⟩
  have HS34 := Lib.hid hs
  replace HBone := Lib.hid ((HS33.out.disk.bs hd (Nat.le_refl _) HBone.out).more hd.size)
  replace HBtwo := Lib.hid ((HS33.out.disk.bs hd (Nat.le_refl _) HBtwo.out).more hd.size)
  replace HBthree := Lib.hid ((HS33.out.disk.bs hd (Nat.le_refl _) HBthree.out).more hd.size)
  clear hs hd HS33
  go_wp2_with fail
  refine (awake19 _).mono ?_
  rintro en w35 ⟨rfl, hb⟩
  have HS35 := Lib.hid (HS34.out.after hb)
  replace HBone := Lib.hid ((HBone.out.below hb).more hb.size)
  replace HBtwo := Lib.hid ((HBtwo.out.below hb).more hb.size)
  replace HBthree := Lib.hid ((HBthree.out.below hb).more hb.size)
  clear hb HS34
  go_wp2_with fail
  obtain ⟨hbx, hby⟩ := boxes1 w35 (.cells #[.int .u8 1] 5)
  have HX36 := Lib.hid hbx
  have HS36 := Lib.hid (HS35.out.after hby)
  replace HBone := Lib.hid ((HBone.out.below hby).more hby.size)
  replace HBtwo := Lib.hid ((HBtwo.out.below hby).more hby.size)
  replace HBthree := Lib.hid ((HBthree.out.below hby).more hby.size)
  clear hbx hby
  generalize w35.alloc (.cells #[.int .u8 1] 5) = w36 at *
  clear HS35
  refine (same_bytes [1] [1] Aone (some ⟨w35.heap.size, 0, none⟩) 1 1 cone 1 w36 w36.heap.size w36.heap.size rfl rfl HBone.out HZone.out (Bs.blk (l := [1]) HX36.out) (by intro h; cases h)).mono ?_
  rintro en w37 ⟨rfl, rfl⟩
  go_wp2_with fail
  obtain ⟨hbx, hby⟩ := boxes1 w36 (.cells #[.int .u8 1, .int .u8 5] 5)
  have HX38 := Lib.hid hbx
  have HS38 := Lib.hid (HS36.out.after hby)
  replace HBone := Lib.hid ((HBone.out.below hby).more hby.size)
  replace HBtwo := Lib.hid ((HBtwo.out.below hby).more hby.size)
  replace HBthree := Lib.hid ((HBthree.out.below hby).more hby.size)
  clear hbx hby
  generalize w36.alloc (.cells #[.int .u8 1, .int .u8 5] 5) = w38 at *
  clear HS36
  refine (same_bytes [1, 5] [1, 5] Atwo (some ⟨w36.heap.size, 0, none⟩) 2 2 ctwo 2 w38 w38.heap.size w38.heap.size rfl rfl HBtwo.out HZtwo.out (Bs.blk (l := [1, 5]) HX38.out) (by intro h; cases h)).mono ?_
  rintro en w39 ⟨rfl, rfl⟩
  go_wp2_with fail
  obtain ⟨hbx, hby⟩ := boxes1 w38 (.cells #[.int .u8 1, .int .u8 5] 5)
  have HX40 := Lib.hid hbx
  have HS40 := Lib.hid (HS38.out.after hby)
  replace HBone := Lib.hid ((HBone.out.below hby).more hby.size)
  replace HBtwo := Lib.hid ((HBtwo.out.below hby).more hby.size)
  replace HBthree := Lib.hid ((HBthree.out.below hby).more hby.size)
  clear hbx hby
  generalize w38.alloc (.cells #[.int .u8 1, .int .u8 5] 5) = w40 at *
  clear HS38
  refine (same_bytes [1, 5] [1, 5] Athree (some ⟨w38.heap.size, 0, none⟩) 2 2 cthree 2 w40 w40.heap.size w40.heap.size rfl rfl HBthree.out HZthree.out (Bs.blk (l := [1, 5]) HX40.out) (by intro h; cases h)).mono ?_
  rintro en w41 ⟨rfl, rfl⟩
  go_wp2_with fail
  go_ret
  exact ⟨rfl, HS40.out.below⟩
end Go.Proofs.Ytjbpgjfnccmdaaa
