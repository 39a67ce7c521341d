/- LogKnown (printed by gen_known21.py). -/
import Derived.Test.YtjbpgjfnccmdaaaNu
import Derived.Test.YtjbpgjfnccmdaaaNf
import Derived.Test.YtjbpgjfnccmdaaaNq
set_option linter.unusedSimpArgs false
set_option linter.unusedVariables false
namespace Go.Proofs.Ytjbpgjfnccmdaaa
open Go.RowKit

/-- a disk and a log on it, all of it new since w0. -/
structure L21 (w0 w : World) (p m q : Nat) (d : Dk) (L : Lg) : Prop where
  disk : DiskAt w p m d
  log : LogAt w q p L
  below : Below w0.heap.size w0 w
  new : w0.heap.size ≤ p ∧ w0.heap.size ≤ m ∧ w0.heap.size ≤ q
theorem L21.after {w0 w w' : World} {p m q : Nat} {d : Dk} {L : Lg} (h : L21 w0 w p m q d L) (hb : Below w.heap.size w w') : L21 w0 w' p m q d L := ⟨h.disk.below hb, (hb.block _ h.log.lt).trans h.log, h.below.trans (hb.mono h.below.size), h.new⟩
theorem L21.of {w0 w w' : World} {p m q : Nat} {d d2 : Dk} {L L2 : Lg} {r : Lg × Dk × Nat} {en : Ending} {n : Nat} {z : Int} (h : L21 w0 w p m q d L) (hP : CommitP w q p m r en w') (hr : r = (L2, d2, n)) (hz : (n : Int) = z) : en = .returned (.int .i64 z) ∧ L21 w0 w' p m q d2 L2 := by
  subst hr hz
  obtain ⟨h1, h2, h3, h4⟩ := hP
  exact ⟨h1, h2, h3, below_bw h.below h4 (by simp [h.new]), h.new⟩
theorem L21.step {w0 w w' : World} {p m q : Nat} {d d2 : Dk} {L : Lg} (h : L21 w0 w p m q d L) (h2 : DiskAt w' p m d2) (hd : Dw w w' p m) : L21 w0 w' p m q d2 L :=
  ⟨h2, (hd.block _ h.log.lt (h.log.ne h.disk).1 (h.log.ne h.disk).2).trans h.log, below_dw h.below hd h.new.1 h.new.2.1, h.new⟩
theorem ls_one {w : World} {g1 g : Nat} {a : List UInt8} (h1 : w.heap[g1]? = some (.cells (bcells a).toArray 5 (0, 0))) (h : w.heap[g]? = some (.cells #[.slice (some ⟨g1, 0, none⟩) a.length a.length] 31 (0, 0))) : Ls w w.heap.size (some ⟨g, 0, none⟩) [a] := fun i hi => by
  obtain rfl : i = 0 := by simp at hi; omega
  exact ⟨g, 0, rfl, lt_blk h, _, _, by have := cell_blk h 0; exact this, Bs.blk h1, by intro h; cases h⟩
theorem ls_two {w : World} {g1 g2 g : Nat} {a b : List UInt8} (h1 : w.heap[g1]? = some (.cells (bcells a).toArray 5 (0, 0))) (h2 : w.heap[g2]? = some (.cells (bcells b).toArray 5 (0, 0))) (h : w.heap[g]? = some (.cells #[.slice (some ⟨g1, 0, none⟩) a.length a.length, .slice (some ⟨g2, 0, none⟩) b.length b.length] 31 (0, 0))) : Ls w w.heap.size (some ⟨g, 0, none⟩) [a, b] := fun i hi => by
  have hc : i = 0 ∨ i = 1 := by simp at hi; omega
  rcases hc with rfl | rfl
  · exact ⟨g, 0, rfl, lt_blk h, _, _, by have := cell_blk h 0; exact this, Bs.blk h1, by intro h; cases h⟩
  · exact ⟨g, 0, rfl, lt_blk h, _, _, by have := cell_blk h 1; exact this, Bs.blk h2, by intro h; cases h⟩
theorem lgok {L : Lg} (h1 : L.reserve ≤ 67108864) (h2 : L.size ≤ L.reserve) (h3 : L.n ≤ L.size) (h4 : L.name.length ≤ 1000) : L.Ok := ⟨h1, h2, h3, h4⟩
set_option maxRecDepth 100000 in
set_option maxHeartbeats 8000000 in
theorem logknown_walk (w : World) : Calls Try.prog 11 #[] w fun e w' => e = .returned (.bool true) ∧ Below w.heap.size w w' := by
  have HNW := Lib.hid (new_at 100 (by decide) (by decide) w)
  go_enter Try.func11, Try.ntmps11
  go_wp2_with fail
  refine HNW.out.mono ?_
  rintro e w1 ⟨rfl, hd1, hb1⟩
  have HB1 := Lib.hid hb1
  have HOP := Lib.hid (open_at hd1 (by decide) [108] (by decide) 40 (by decide))
  clear hd1 hb1 HNW
  go_wp2_with fail
  refine HOP.out.mono ?_
  intro e w2 h2
  obtain ⟨q, A, c, rfl, hs⟩ := s21_open (w0 := w) (n := 100) (res := 40) (by decide) (by decide) (by decide) HB1.out (Nat.le_succ _) (Nat.le_refl _) h2
  have HS2 := Lib.hid (L21.mk hs.disk hs.log hs.below hs.new)
  clear h2 hs HOP HB1
  go_wp2_with fail
  obtain ⟨hbx, hby⟩ := boxes1 w2 (.cells #[.int .u8 1, .int .u8 2] 5)
  have HX3 := Lib.hid hbx
  have HS3 := Lib.hid (HS2.out.after hby)
  clear hbx hby HS2
  generalize w2.alloc (.cells #[.int .u8 1, .int .u8 2] 5) = w3 at *
  refine ((commit_at HS3.out.disk HS3.out.log (lgok (by decide) (by decide) (by decide) (by decide)) (by decide) [1, 2] 2 rfl (some ⟨w2.heap.size, 0, none⟩) 2 (Bs.blk (l := [1, 2]) HX3.out) (by intro h; cases h)).mono fun en W hP => HS3.out.of hP (L2 := (⟨[108], 40, 1, 14, false⟩ : Lg)) (d2 := (⟨100, [([108], ⟨[0, 0, 0, 2, 255, 255, 255, 253, 1, 2, 3, 248, 159, 82], 14, true⟩)], -1, 2⟩ : Dk)) (n := 0) (z := 0) (by kernel_rfl) rfl).mono ?_
  rintro en w4 ⟨rfl, hs⟩
  have HS4 := Lib.hid hs
  clear hs HS3 HX3
  have hmk := fun W => run_make_el E5 15 15 rfl (by decide) (by decide) W
  go_wp2_with fail
  obtain ⟨hbx, hby⟩ := boxes1 w4 (.cells #[.int .u8 0, .int .u8 0, .int .u8 0, .int .u8 0, .int .u8 0, .int .u8 0, .int .u8 0, .int .u8 0, .int .u8 0, .int .u8 0, .int .u8 0, .int .u8 0, .int .u8 0, .int .u8 0, .int .u8 0] 5)
  have HX5 := Lib.hid hbx
  have HS5 := Lib.hid (HS4.out.after hby)
  clear hbx hby HS4
  generalize w4.alloc (.cells #[.int .u8 0, .int .u8 0, .int .u8 0, .int .u8 0, .int .u8 0, .int .u8 0, .int .u8 0, .int .u8 0, .int .u8 0, .int .u8 0, .int .u8 0, .int .u8 0, .int .u8 0, .int .u8 0, .int .u8 0] 5) = w5 at *
  refine ((commit_at HS5.out.disk HS5.out.log (lgok (by decide) (by decide) (by decide) (by decide)) (by decide) [0, 0, 0, 0, 0, 0, 0, 0, 0, 0, 0, 0, 0, 0, 0] 15 rfl (some ⟨w4.heap.size, 0, none⟩) 15 (Bs.blk (l := [0, 0, 0, 0, 0, 0, 0, 0, 0, 0, 0, 0, 0, 0, 0]) HX5.out) (by intro h; cases h)).mono fun en W hP => HS5.out.of hP (L2 := (⟨[108], 40, 1, 14, false⟩ : Lg)) (d2 := (⟨100, [([108], ⟨[0, 0, 0, 2, 255, 255, 255, 253, 1, 2, 3, 248, 159, 82], 14, true⟩)], -1, 2⟩ : Dk)) (n := 12) (z := 12) (by kernel_rfl) rfl).mono ?_
  rintro en w6 ⟨rfl, hs⟩
  have HS6 := Lib.hid hs
  clear hs HS5 HX5
  go_wp2_with fail
  refine (llen_at HS6.out.log).mono ?_
  rintro en w7 ⟨rfl, rfl⟩
  go_wp2_with fail
  refine (lsize_at HS6.out.log).mono ?_
  rintro en w8 ⟨rfl, rfl⟩
  go_wp2_with fail
  refine (stop_at HS6.out.disk 1 (by decide)).mono ?_
  rintro en w9 ⟨rfl, hs1, hs2⟩
  have HS9 := Lib.hid (HS6.out.step (d2 := (⟨100, [([108], ⟨[0, 0, 0, 2, 255, 255, 255, 253, 1, 2, 3, 248, 159, 82], 14, true⟩)], 1, 2⟩ : Dk)) hs1 hs2)
  clear hs1 hs2 HS6
  go_wp2_with fail
  obtain ⟨hbx, hby⟩ := boxes1 w9 (.cells #[.int .u8 3] 5)
  have HX10 := Lib.hid hbx
  have HS10 := Lib.hid (HS9.out.after hby)
  clear hbx hby HS9
  generalize w9.alloc (.cells #[.int .u8 3] 5) = w10 at *
  refine ((commit_at HS10.out.disk HS10.out.log (lgok (by decide) (by decide) (by decide) (by decide)) (by decide) [3] 1 rfl (some ⟨w9.heap.size, 0, none⟩) 1 (Bs.blk (l := [3]) HX10.out) (by intro h; cases h)).mono fun en W hP => HS10.out.of hP (L2 := (⟨[108], 40, 1, 14, true⟩ : Lg)) (d2 := (⟨100, [([108], ⟨[0, 0, 0, 2, 255, 255, 255, 253, 1, 2, 3, 248, 159, 82, 0, 0, 0, 1, 255, 255, 255, 254, 3, 65, 45, 160, 165], 14, true⟩)], 0, 3⟩ : Dk)) (n := 13) (z := 13) (by kernel_rfl) rfl).mono ?_
  rintro en w11 ⟨rfl, hs⟩
  have HS11 := Lib.hid hs
  clear hs HS10 HX10
  go_wp2_with fail
  refine (lbroken_at HS11.out.log).mono ?_
  rintro en w12 ⟨rfl, rfl⟩
  go_wp2_with fail
  obtain ⟨hbx, hby⟩ := boxes1 w12 (.cells #[.int .u8 3] 5)
  have HX13 := Lib.hid hbx
  have HS13 := Lib.hid (HS11.out.after hby)
  clear hbx hby HS11
  generalize w12.alloc (.cells #[.int .u8 3] 5) = w13 at *
  refine ((commit_at HS13.out.disk HS13.out.log (lgok (by decide) (by decide) (by decide) (by decide)) (by decide) [3] 1 rfl (some ⟨w12.heap.size, 0, none⟩) 1 (Bs.blk (l := [3]) HX13.out) (by intro h; cases h)).mono fun en W hP => HS13.out.of hP (L2 := (⟨[108], 40, 1, 14, true⟩ : Lg)) (d2 := (⟨100, [([108], ⟨[0, 0, 0, 2, 255, 255, 255, 253, 1, 2, 3, 248, 159, 82, 0, 0, 0, 1, 255, 255, 255, 254, 3, 65, 45, 160, 165], 14, true⟩)], 0, 3⟩ : Dk)) (n := 14) (z := 14) (by kernel_rfl) rfl).mono ?_
  rintro en w14 ⟨rfl, hs⟩
  have HS14 := Lib.hid hs
  clear hs HS13 HX13
  go_wp2_with fail
  have HLT := Lib.hid (HS14.out.disk.lt)
  have HLM := Lib.hid (HS14.out.disk.ltm)
  have HSZ := Lib.hid (HS14.out.below.size)
  refine (clone_at HS14.out.disk).mono ?_
  rintro en w15 ⟨pb, mb, rfl, h6, hb6, hpb, hmb⟩
  have HT15 := Lib.hid (T19.mk (w0 := w) (HS14.out.disk.below hb6) h6 (HS14.out.below.trans (hb6.mono HS14.out.below.size)) ⟨HS14.out.new.1, HS14.out.new.2.1, Nat.le_trans HSZ.out hpb, Nat.le_trans HSZ.out hmb⟩ ⟨by have := HLT.out; omega, by have := HLT.out; omega, by have := HLM.out; omega, by have := HLM.out; omega⟩)
  clear h6 hb6 hpb hmb HS14 HLT HLM HSZ
  go_wp2_with fail
  obtain ⟨hbx, hby⟩ := boxes1 w15 (.cells #[.int .i64 5] 3)
  have HX16 := Lib.hid hbx
  have HS16 := Lib.hid (HT15.out.after hby)
  clear hbx hby HT15
  generalize w15.alloc (.cells #[.int .i64 5] 3) = w16 at *
  refine (crash_at HS16.out.a (by decide) [5] 1 rfl (by decide) (some ⟨w15.heap.size, 0, none⟩) 1 (zs_lit (g := w15.heap.size) [5] HX16.out)).mono ?_
  rintro en w17 ⟨rfl, hd1, hd⟩
  have HS17 := Lib.hid (HS16.out.stepA (d2 := (⟨100, [([108], ⟨[0, 0, 0, 2, 255, 255, 255, 253, 1, 2, 3, 248, 159, 82, 0, 0, 0, 1, 255], 19, true⟩)], -1, 3⟩ : Dk)) hd1 hd)
  clear hd1 hd HS16
  go_wp2_with fail
  obtain ⟨hbx, hby⟩ := boxes1 w17 (.cells #[.int .i64 13] 3)
  have HX18 := Lib.hid hbx
  have HS18 := Lib.hid (HS17.out.after hby)
  clear hbx hby HS17
  generalize w17.alloc (.cells #[.int .i64 13] 3) = w18 at *
  refine (crash_at HS18.out.b (by decide) [13] 1 rfl (by decide) (some ⟨w17.heap.size, 0, none⟩) 1 (zs_lit (g := w17.heap.size) [13] HX18.out)).mono ?_
  rintro en w19 ⟨rfl, hd1, hd⟩
  have HS19 := Lib.hid (HS18.out.stepB (d2 := (⟨100, [([108], ⟨[0, 0, 0, 2, 255, 255, 255, 253, 1, 2, 3, 248, 159, 82, 0, 0, 0, 1, 255, 255, 255, 254, 3, 65, 45, 160, 165], 27, true⟩)], -1, 3⟩ : Dk)) hd1 hd)
  clear hd1 hd HS18
  have HO20 := Lib.hid (open_at HS19.out.a (by decide) [108] (by decide) 40 (by decide))
  rw [show lopen (⟨100, [([108], ⟨[0, 0, 0, 2, 255, 255, 255, 253, 1, 2, 3, 248, 159, 82, 0, 0, 0, 1, 255], 19, true⟩)], -1, 3⟩ : Dk) [108] 40 = (⟨(⟨100, [([108], ⟨[0, 0, 0, 2, 255, 255, 255, 253, 1, 2, 3, 248, 159, 82], 14, true⟩)], -1, 4⟩ : Dk), some ⟨[108], 40, 1, 14, false⟩, [[1, 2]], 0⟩ : OpenR) from by kernel_rfl] at HO20
  go_wp2_with fail
  refine HO20.out.mono ?_
  rintro en w20 ⟨hd1, hd, pv, Aa, ca, rfl, hls, hA0, hc, qa, rfl, hl, hq⟩
  have HS20 := Lib.hid (HS19.out.stepA hd1 hd)
  have HLSa : Hid (Ls w20 w20.heap.size Aa [[1, 2]]) := Lib.hid hls
  clear hd1 hd hls hA0 hc hl hq HS19 HO20
  have HO21 := Lib.hid (open_at HS20.out.b (by decide) [108] (by decide) 40 (by decide))
  rw [show lopen (⟨100, [([108], ⟨[0, 0, 0, 2, 255, 255, 255, 253, 1, 2, 3, 248, 159, 82, 0, 0, 0, 1, 255, 255, 255, 254, 3, 65, 45, 160, 165], 27, true⟩)], -1, 3⟩ : Dk) [108] 40 = (⟨(⟨100, [([108], ⟨[0, 0, 0, 2, 255, 255, 255, 253, 1, 2, 3, 248, 159, 82, 0, 0, 0, 1, 255, 255, 255, 254, 3, 65, 45, 160, 165], 27, true⟩)], -1, 3⟩ : Dk), some ⟨[108], 40, 2, 27, false⟩, [[1, 2], [3]], 0⟩ : OpenR) from by kernel_rfl] at HO21
  go_wp2_with fail
  refine HO21.out.mono ?_
  rintro en w21 ⟨hd1, hd, pv, Ab, cb, rfl, hls, hA0, hc, qb, rfl, hl, hq⟩
  have HS21 := Lib.hid (HS20.out.stepB hd1 hd)
  replace HLSa := Lib.hid ((hd.bw.ls HS20.out.b.noSl (Nat.le_refl _) HLSa.out).more hd.size)
  have HLSb : Hid (Ls w21 w21.heap.size Ab [[1, 2], [3]]) := Lib.hid hls
  clear hd1 hd hls hA0 hc hl hq HS20 HO21
  have HO22 := Lib.hid (open_at HS21.out.a (by decide) [76] (by decide) 40 (by decide))
  rw [show lopen (⟨100, [([108], ⟨[0, 0, 0, 2, 255, 255, 255, 253, 1, 2, 3, 248, 159, 82], 14, true⟩)], -1, 4⟩ : Dk) [76] 40 = (⟨(⟨100, [([108], ⟨[0, 0, 0, 2, 255, 255, 255, 253, 1, 2, 3, 248, 159, 82], 14, true⟩)], -1, 4⟩ : Dk), none, [], 2⟩ : OpenR) from by kernel_rfl] at HO22
  go_wp2_with fail
  refine HO22.out.mono ?_
  rintro en w22 ⟨hd1, hd, pv, A9, c9, rfl, hls, hA0, hc, rfl⟩
  have HS22 := Lib.hid (HS21.out.stepA hd1 hd)
  replace HLSa := Lib.hid ((hd.bw.ls HS21.out.a.noSl (Nat.le_refl _) HLSa.out).more hd.size)
  replace HLSb := Lib.hid ((hd.bw.ls HS21.out.a.noSl (Nat.le_refl _) HLSb.out).more hd.size)
  clear hd1 hd hls hA0 hc HS21 HO22
  have HO23 := Lib.hid (open_at HS22.out.a (by decide) [108] (by decide) 0 (by decide))
  rw [show lopen (⟨100, [([108], ⟨[0, 0, 0, 2, 255, 255, 255, 253, 1, 2, 3, 248, 159, 82], 14, true⟩)], -1, 4⟩ : Dk) [108] 0 = (⟨(⟨100, [([108], ⟨[0, 0, 0, 2, 255, 255, 255, 253, 1, 2, 3, 248, 159, 82], 14, true⟩)], -1, 4⟩ : Dk), none, [], 2⟩ : OpenR) from by kernel_rfl] at HO23
  go_wp2_with fail
  refine HO23.out.mono ?_
  rintro en w23 ⟨hd1, hd, pv, A9, c9, rfl, hls, hA0, hc, rfl⟩
  have HS23 := Lib.hid (HS22.out.stepA hd1 hd)
  replace HLSa := Lib.hid ((hd.bw.ls HS22.out.a.noSl (Nat.le_refl _) HLSa.out).more hd.size)
  replace HLSb := Lib.hid ((hd.bw.ls HS22.out.a.noSl (Nat.le_refl _) HLSb.out).more hd.size)
  clear hd1 hd hls hA0 hc HS22 HO23
  go_wp2_with fail
  refine (awake21 _).mono ?_
  rintro en w24 ⟨rfl, hb⟩
  have HS24 := Lib.hid (HS23.out.after hb)
  replace HLSa := Lib.hid ((HLSa.out.below hb).more hb.size)
  replace HLSb := Lib.hid ((HLSb.out.below hb).more hb.size)
  clear hb HS23
  go_wp2_with fail
  obtain ⟨b0_, b1_, hb_⟩ := boxes2 w24 (.cells #[.int .u8 1, .int .u8 2] 5) (.cells #[.slice (some ⟨w24.heap.size, 0, none⟩) 2 2] 31)
  generalize (w24.alloc (.cells #[.int .u8 1, .int .u8 2] 5)).alloc (.cells #[.slice (some ⟨w24.heap.size, 0, none⟩) 2 2] 31) = w25 at *
  have Q250b : Hid (∀ W, Below w25.heap.size w25 W → W.heap[w24.heap.size]? = some (.cells #[.int .u8 1, .int .u8 2] 5 (0, 0))) := Lib.hid (fun W hW => (hW.block _ (lt_blk b0_)).trans b0_)
  have Q250 : Hid (∀ W, Below w25.heap.size w25 W → W.cell? ⟨w24.heap.size, 0, none⟩ = some (.int .u8 1) ∧ W.cell? ⟨w24.heap.size, 1, none⟩ = some (.int .u8 2)) := Lib.hid (fun W hW => by have e := (hW.block _ (lt_blk b0_)).trans b0_; exact ⟨by rw [cell_blk e]; rfl, by rw [cell_blk e]; rfl⟩)
  have Q251b : Hid (∀ W, Below w25.heap.size w25 W → W.heap[w24.heap.size + 1]? = some (.cells #[.slice (some ⟨w24.heap.size, 0, none⟩) 2 2] 31 (0, 0))) := Lib.hid (fun W hW => (hW.block _ (lt_blk b1_)).trans b1_)
  have Q251 : Hid (∀ W, Below w25.heap.size w25 W → W.cell? ⟨w24.heap.size + 1, 0, none⟩ = some (.slice (some ⟨w24.heap.size, 0, none⟩) 2 2)) := Lib.hid (fun W hW => by have e := (hW.block _ (lt_blk b1_)).trans b1_; exact by rw [cell_blk e]; rfl)
  have HB25 := Lib.hid hb_
  clear hb_ b0_ b1_
  have HS25 := Lib.hid (HS24.out.after HB25.out)
  replace HLSa := Lib.hid ((HLSa.out.below HB25.out).more HB25.out.size)
  replace HLSb := Lib.hid ((HLSb.out.below HB25.out).more HB25.out.size)
  clear HS24
  refine ((lists21 [[1, 2]] [[1, 2]] (by decide) (by decide) Aa (some ⟨w24.heap.size + 1, 0, none⟩) ca 1 w25.heap.size w25.heap.size w25 HLSa.out (Nat.le_refl _) (ls_one (Q250b.out w25 (Below.refl _ _)) (Q251b.out w25 (Below.refl _ _))) (Nat.le_refl _)).mono fun e W h => (⟨by rw [h.1, decide_eq_true rfl], h.2⟩ : e = .returned (.bool true) ∧ _)).mono ?_
  rintro en w26 ⟨rfl, hb⟩
  have HS26 := Lib.hid (HS25.out.after hb)
  replace HLSa := Lib.hid ((HLSa.out.below hb).more hb.size)
  replace HLSb := Lib.hid ((HLSb.out.below hb).more hb.size)
  clear hb HS25
  go_wp2_with fail
  obtain ⟨b0_, b1_, b2_, hb_⟩ := boxes3 w26 (.cells #[.int .u8 1, .int .u8 2] 5) (.cells #[.int .u8 3] 5) (.cells #[.slice (some ⟨w26.heap.size, 0, none⟩) 2 2, .slice (some ⟨w26.heap.size + 1, 0, none⟩) 1 1] 31)
  generalize ((w26.alloc (.cells #[.int .u8 1, .int .u8 2] 5)).alloc (.cells #[.int .u8 3] 5)).alloc (.cells #[.slice (some ⟨w26.heap.size, 0, none⟩) 2 2, .slice (some ⟨w26.heap.size + 1, 0, none⟩) 1 1] 31) = w27 at *
  have Q270b : Hid (∀ W, Below w27.heap.size w27 W → W.heap[w26.heap.size]? = some (.cells #[.int .u8 1, .int .u8 2] 5 (0, 0))) := Lib.hid (fun W hW => (hW.block _ (lt_blk b0_)).trans b0_)
  have Q270 : Hid (∀ W, Below w27.heap.size w27 W → W.cell? ⟨w26.heap.size, 0, none⟩ = some (.int .u8 1) ∧ W.cell? ⟨w26.heap.size, 1, none⟩ = some (.int .u8 2)) := Lib.hid (fun W hW => by have e := (hW.block _ (lt_blk b0_)).trans b0_; exact ⟨by rw [cell_blk e]; rfl, by rw [cell_blk e]; rfl⟩)
  have Q271b : Hid (∀ W, Below w27.heap.size w27 W → W.heap[w26.heap.size + 1]? = some (.cells #[.int .u8 3] 5 (0, 0))) := Lib.hid (fun W hW => (hW.block _ (lt_blk b1_)).trans b1_)
  have Q271 : Hid (∀ W, Below w27.heap.size w27 W → W.cell? ⟨w26.heap.size + 1, 0, none⟩ = some (.int .u8 3)) := Lib.hid (fun W hW => by have e := (hW.block _ (lt_blk b1_)).trans b1_; exact by rw [cell_blk e]; rfl)
  have Q272b : Hid (∀ W, Below w27.heap.size w27 W → W.heap[w26.heap.size + 1 + 1]? = some (.cells #[.slice (some ⟨w26.heap.size, 0, none⟩) 2 2, .slice (some ⟨w26.heap.size + 1, 0, none⟩) 1 1] 31 (0, 0))) := Lib.hid (fun W hW => (hW.block _ (lt_blk b2_)).trans b2_)
  have Q272 : Hid (∀ W, Below w27.heap.size w27 W → W.cell? ⟨w26.heap.size + 1 + 1, 0, none⟩ = some (.slice (some ⟨w26.heap.size, 0, none⟩) 2 2) ∧ W.cell? ⟨w26.heap.size + 1 + 1, 1, none⟩ = some (.slice (some ⟨w26.heap.size + 1, 0, none⟩) 1 1)) := Lib.hid (fun W hW => by have e := (hW.block _ (lt_blk b2_)).trans b2_; exact ⟨by rw [cell_blk e]; rfl, by rw [cell_blk e]; rfl⟩)
  have HB27 := Lib.hid hb_
  clear hb_ b0_ b1_ b2_
  have HS27 := Lib.hid (HS26.out.after HB27.out)
  replace HLSa := Lib.hid ((HLSa.out.below HB27.out).more HB27.out.size)
  replace HLSb := Lib.hid ((HLSb.out.below HB27.out).more HB27.out.size)
  clear HS26
  refine ((lists21 [[1, 2], [3]] [[1, 2], [3]] (by decide) (by decide) Ab (some ⟨w26.heap.size + 1 + 1, 0, none⟩) cb 2 w27.heap.size w27.heap.size w27 HLSb.out (Nat.le_refl _) (ls_two (Q270b.out w27 (Below.refl _ _)) (Q271b.out w27 (Below.refl _ _)) (Q272b.out w27 (Below.refl _ _))) (Nat.le_refl _)).mono fun e W h => (⟨by rw [h.1, decide_eq_true rfl], h.2⟩ : e = .returned (.bool true) ∧ _)).mono ?_
  rintro en w28 ⟨rfl, hb⟩
  have HS28 := Lib.hid (HS27.out.after hb)
  replace HLSa := Lib.hid ((HLSa.out.below hb).more hb.size)
  replace HLSb := Lib.hid ((HLSb.out.below hb).more hb.size)
  clear hb HS27
  go_wp2_with fail
  go_ret
  exact ⟨rfl, HS28.out.below⟩
end Go.Proofs.Ytjbpgjfnccmdaaa
