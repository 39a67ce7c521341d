/- the chapter's example; StoreNone. -/
import Derived.Test.YtdmodhcbcpmadaaDoorA5
import Derived.Test.YtdmodhcbcpmadaaDoorNe
set_option linter.unusedSimpArgs false
set_option linter.unusedVariables false
namespace Go.Proofs.YtdmodhcbcpmadaaDoor
open Go.RowKit

/-- a store on its disk, all of it new since w0. -/
structure S22 (w0 w : World) (s q p m : Nat) (base : Nm) (res g : Int) (b : Bool) (d : Dk) (L : Lg) : Prop where
  sto : Sto w s q p m base res g b d L
  below : Below w0.heap.size w0 w
  new : w0.heap.size ≤ p ∧ w0.heap.size ≤ m ∧ w0.heap.size ≤ q ∧ w0.heap.size ≤ s
theorem S22.after {w0 w w' : World} {s q p m : Nat} {base : Nm} {res g : Int} {b : Bool} {d : Dk} {L : Lg} (h : S22 w0 w s q p m base res g b d L) (hb : Below w.heap.size w w') : S22 w0 w' s q p m base res g b d L := ⟨h.sto.below hb, h.below.trans (hb.mono h.below.size), h.new⟩
theorem below_bw2 {w0 w w' : World} {S : List Nat} (h : Below w0.heap.size w0 w) (hb : Bw w w' S) (hs : ∀ k ∈ S, w0.heap.size ≤ k) : Below w0.heap.size w0 w' :=
  ⟨hb.os.trans h.os, hb.tape.trans h.tape, hb.output.trans h.output, Nat.le_trans h.size hb.size, fun k hk => (hb.block k (Nat.lt_of_lt_of_le hk h.size) (fun h4 => by have := hs k h4; omega)).trans (h.block k hk)⟩
theorem S22.commit {w0 w : World} {s q p m : Nat} {base : Nm} {res g : Int} {d d2 : Dk} {L L2 : Lg} {z : Nat} (h : S22 w0 w s q p m base res g false d L) (hok : L.Ok) (hw : d.writes < 100000000000) (b : List UInt8) (n : Nat) (hn : n = b.length) (C : Option Addr) (capb : Nat) (hC : Bs w w.heap.size C b) (hC0 : C = none → b = []) (hr : lcommit L d b = (L2, d2, z)) :
    Calls Tryd.prog 5 #[.pointer (some ⟨s, 0, none⟩), .slice C n capb] w fun e w' => e = .returned (.int .i64 z) ∧ S22 w0 w' s q p m base res g L2.broken d2 L2 := by
  have := scommit_at h.sto hok hw b n hn C capb hC hC0
  rw [hr] at this
  refine this.mono ?_
  rintro e w' ⟨he, h1, h2⟩
  exact ⟨he, h1, below_bw2 h.below h2 (by simp [h.new]), h.new⟩
def nmT1 : Nm := [116, 49]
def nmL0 : Nm := [116, 49, 46, 108, 111, 103, 46, 48]
def fr12 : List UInt8 := [0, 0, 0, 2, 255, 255, 255, 253, 1, 2, 3, 248, 159, 82]
def fr3 : List UInt8 := [0, 0, 0, 1, 255, 255, 255, 254, 3, 65, 45, 160, 165]
theorem open_fresh : sopen0 (emptyDk 1000) nmT1 300 = ⟨emptyDk 1000, some ⟨nmL0, 100, 0, 0, false⟩, [], 0⟩ := by kernel_rfl
theorem com_one : lcommit ⟨nmL0, 100, 0, 0, false⟩ (emptyDk 1000) [1, 2] = (⟨nmL0, 100, 1, 14, false⟩, ⟨1000, [(nmL0, ⟨fr12, 14, true⟩)], -1, 2⟩, 0) := by kernel_rfl
theorem com_two : lcommit ⟨nmL0, 100, 1, 14, false⟩ ⟨1000, [(nmL0, ⟨fr12, 14, true⟩)], -1, 2⟩ [3] = (⟨nmL0, 100, 2, 27, false⟩, ⟨1000, [(nmL0, ⟨fr12 ++ fr3, 27, true⟩)], -1, 4⟩, 0) := by kernel_rfl
theorem open_again : sopen0 ⟨1000, [(nmL0, ⟨fr12 ++ fr3, 27, true⟩)], -1, 4⟩ nmT1 300 = ⟨⟨1000, [(nmL0, ⟨fr12 ++ fr3, 27, true⟩)], -1, 4⟩, some ⟨nmL0, 100, 2, 27, false⟩, [[1, 2], [3]], 0⟩ := by kernel_rfl
theorem ls_two2 {w : World} {g1 g2 g : Nat} {a b : List UInt8} (h1 : w.heap[g1]? = some (.cells (bcells a).toArray 5 (0, 0))) (h2 : w.heap[g2]? = some (.cells (bcells b).toArray 5 (0, 0))) (h : w.heap[g]? = some (.cells #[.slice (some ⟨g1, 0, none⟩) a.length a.length, .slice (some ⟨g2, 0, none⟩) b.length b.length] 22 (0, 0))) : Ls w w.heap.size (some ⟨g, 0, none⟩) [a, b] := by
  intro i hi
  have hc : i = 0 ∨ i = 1 := by simp at hi; omega
  rcases hc with rfl | rfl
  · exact ⟨g, 0, rfl, lt_blk h, _, _, by have := cell_blk h 0; exact this, Bs.blk h1, by intro h; cases h⟩
  · exact ⟨g, 0, rfl, lt_blk h, _, _, by have := cell_blk h 1; exact this, Bs.blk h2, by intro h; cases h⟩
set_option maxRecDepth 100000 in
set_option maxHeartbeats 4000000 in
theorem awake22 (w : World) : Calls Tryd.prog 12 #[] w fun e w' => e = .returned (.bool true) ∧ Below w.heap.size w w' := by
  have HNW := Lib.hid (new_at 1000 (by decide) (by decide) w)
  go_enter Tryd.func12, Tryd.ntmps12
  go_wp2_with fail
  refine HNW.out.mono ?_
  rintro e w1 ⟨rfl, hd1, hb1⟩
  have HB1 := Lib.hid hb1; have HD1 := Lib.hid hd1
  have hop := sopen0_at hd1 (by decide) nmT1 (by decide) 300 (by decide) (by kernel_rfl) (by show 0 ≤ _; omega)
  rw [open_fresh] at hop
  have HOP := Lib.hid hop
  clear hd1 hb1 HNW hop
  go_wp2_with fail
  refine HOP.out.mono ?_
  rintro e w2 ⟨hd2, hw2, pv, A, c, rfl, _, _, _, s, q, rfl, hst, hlg, hs, hq, _⟩
  have hsz := HB1.out.size
  have HS2 : Hid (S22 w w2 s q (w.heap.size + 1) w.heap.size nmT1 300 0 false (emptyDk 1000) ⟨nmL0, 100, 0, 0, false⟩) := Lib.hid ⟨⟨hd2, hlg, hst⟩, below_bw2 HB1.out hw2.bw (by simp), by omega, Nat.le_refl _, by omega, by omega⟩
  clear hd2 hw2 hst hlg HOP
  go_wp2_with fail
  obtain ⟨hbx, hby⟩ := boxes1 w2 (.cells #[.int .u8 1, .int .u8 2] 5)
  have HX3 := Lib.hid hbx
  have HS3 := Lib.hid (HS2.out.after hby)
  clear hbx hby HS2
  generalize w2.alloc (.cells #[.int .u8 1, .int .u8 2] 5) = w3 at *
  refine (HS3.out.commit ⟨by decide, by decide, by decide, by decide⟩ (by decide) [1, 2] 2 rfl (some ⟨w2.heap.size, 0, none⟩) 2 (Bs.blk (l := [1, 2]) HX3.out) (by intro h; cases h) com_one).mono ?_
  rintro e w4 ⟨rfl, hs4⟩
  have HS4 := Lib.hid hs4
  clear hs4 HS3 HX3
  go_wp2_with fail
  obtain ⟨hbx, hby⟩ := boxes1 w4 (.cells #[.int .u8 3] 5)
  have HX5 := Lib.hid hbx
  have HS5 := Lib.hid (HS4.out.after hby)
  clear hbx hby HS4
  generalize w4.alloc (.cells #[.int .u8 3] 5) = w5 at *
  refine (HS5.out.commit ⟨by decide, by decide, by decide, by decide⟩ (by decide) [3] 1 rfl (some ⟨w4.heap.size, 0, none⟩) 1 (Bs.blk (l := [3]) HX5.out) (by intro h; cases h) com_two).mono ?_
  rintro e w6 ⟨rfl, hs6⟩
  have HS6 := Lib.hid hs6
  have hop := sopen0_at hs6.sto.disk (by decide) nmT1 (by decide) 300 (by decide) (by kernel_rfl) (by show 27 ≤ _; omega)
  rw [open_again] at hop
  have HOP := Lib.hid hop
  clear hs6 HS5 HX5 hop
  go_wp2_with fail
  refine HOP.out.mono ?_
  rintro e w7 ⟨hd7, hw7, pv, A7, c7, rfl, hls, _, _, s7, q7, rfl, hst, hlg, _, _, _⟩
  have HB7 : Hid (Below w.heap.size w w7) := Lib.hid (below_bw2 HS6.out.below hw7.bw (by have := HS6.out.new; simp))
  have HLS := Lib.hid hls
  clear hd7 hw7 hls hst hlg HOP HS6
  simp only [List.length_cons, List.length_nil]
  go_wp2_with fail
  obtain ⟨b0_, b1_, b2_, hb_⟩ := boxes3 w7 (.cells #[.int .u8 1, .int .u8 2] 5) (.cells #[.int .u8 3] 5) (.cells #[.slice (some ⟨w7.heap.size, 0, none⟩) 2 2, .slice (some ⟨w7.heap.size + 1, 0, none⟩) 1 1] 22)
  generalize ((w7.alloc (.cells #[.int .u8 1, .int .u8 2] 5)).alloc (.cells #[.int .u8 3] 5)).alloc (.cells #[.slice (some ⟨w7.heap.size, 0, none⟩) 2 2, .slice (some ⟨w7.heap.size + 1, 0, none⟩) 1 1] 22) = w8 at *
  have T0b : Hid (∀ W, Below w8.heap.size w8 W → W.heap[w7.heap.size]? = some (.cells #[.int .u8 1, .int .u8 2] 5 (0, 0))) := Lib.hid (fun W hW => (hW.block _ (lt_blk b0_)).trans b0_)
  have T0 : Hid (∀ W, Below w8.heap.size w8 W → W.cell? ⟨w7.heap.size, 0, none⟩ = some (.int .u8 1) ∧ W.cell? ⟨w7.heap.size, 1, none⟩ = some (.int .u8 2)) := Lib.hid (fun W hW => by have e := (hW.block _ (lt_blk b0_)).trans b0_; exact ⟨by rw [cell_blk e]; rfl, by rw [cell_blk e]; rfl⟩)
  have T1b : Hid (∀ W, Below w8.heap.size w8 W → W.heap[w7.heap.size + 1]? = some (.cells #[.int .u8 3] 5 (0, 0))) := Lib.hid (fun W hW => (hW.block _ (lt_blk b1_)).trans b1_)
  have T1 : Hid (∀ W, Below w8.heap.size w8 W → W.cell? ⟨w7.heap.size + 1, 0, none⟩ = some (.int .u8 3)) := Lib.hid (fun W hW => by have e := (hW.block _ (lt_blk b1_)).trans b1_; exact by rw [cell_blk e]; rfl)
  have T2b : Hid (∀ W, Below w8.heap.size w8 W → W.heap[w7.heap.size + 1 + 1]? = some (.cells #[.slice (some ⟨w7.heap.size, 0, none⟩) 2 2, .slice (some ⟨w7.heap.size + 1, 0, none⟩) 1 1] 22 (0, 0))) := Lib.hid (fun W hW => (hW.block _ (lt_blk b2_)).trans b2_)
  have T2 : Hid (∀ W, Below w8.heap.size w8 W → W.cell? ⟨w7.heap.size + 1 + 1, 0, none⟩ = some (.slice (some ⟨w7.heap.size, 0, none⟩) 2 2) ∧ W.cell? ⟨w7.heap.size + 1 + 1, 1, none⟩ = some (.slice (some ⟨w7.heap.size + 1, 0, none⟩) 1 1)) := Lib.hid (fun W hW => by have e := (hW.block _ (lt_blk b2_)).trans b2_; exact ⟨by rw [cell_blk e]; rfl, by rw [cell_blk e]; rfl⟩)
  have HB8 := Lib.hid hb_
  clear hb_ b0_ b1_ b2_
  have HLS8 := Lib.hid ((HLS.out.below HB8.out).more HB8.out.size)
  have HLL : Hid (Ls w8 w8.heap.size (some ⟨w7.heap.size + 1 + 1, 0, none⟩) [[1, 2], [3]]) := Lib.hid (ls_two2 (g1 := w7.heap.size) (g2 := w7.heap.size + 1) (a := [1, 2]) (b := [3]) (T0b.out w8 (Below.refl _ _)) (T1b.out w8 (Below.refl _ _)) (T2b.out w8 (Below.refl _ _)))
  have hli := lists22 [[1, 2], [3]] [[1, 2], [3]] (by decide) (by decide) A7 (some ⟨w7.heap.size + 1 + 1, 0, none⟩) c7 2 w8.heap.size w8.heap.size w8 HLS8.out (Nat.le_refl _) HLL.out (Nat.le_refl _)
  rw [decide_eq_true rfl] at hli
  have HLI : Hid (Calls Tryd.prog 40 #[.slice A7 2 c7, .slice (some ⟨w7.heap.size + 1 + 1, 0, none⟩) 2 2] w8 fun e w' => e = .returned (.bool true) ∧ Below w8.heap.size w8 w') := Lib.hid hli
  clear hli
  refine HLI.out.mono ?_
  rintro e w9 ⟨rfl, hb⟩
  have HB9 := Lib.hid ((HB7.out.trans (HB8.out.mono HB7.out.size)).trans (hb.mono (by have := HB7.out.size; have := HB8.out.size; omega)))
  clear hb
  go_wp2_with fail
  go_ret
  exact ⟨rfl, HB9.out⟩
set_option maxRecDepth 100000 in
set_option maxHeartbeats 4000000 in
theorem storenone_walk (l : List UInt8) (A : Option Addr) (cap : Nat) (n : Int) (w : World) (hA : Bs w w.heap.size A l) (hA0 : A = none → l = []) (hn : (Lit.int .i64 n).wf = true) (hk : True) :
    Calls Tryd.prog 3 #[.slice A l.length cap, .int .i64 n] w fun e w' => e = .returned (.bool true) ∧ Below w.heap.size w w' := by
  clear hA hA0 hk hn
  generalize l.length = ln
  go_enter Tryd.func3, Tryd.ntmps3
  go_wp2_with fail
  obtain ⟨b0_, b1_, b2_, b3_, hb_⟩ := boxes4 w (.cells #[.pointer none, .string ⟨#[]⟩, .int .i64 0, .int .i64 0, .pointer none, .bool false] 27) (.cells #[.pointer none, .pointer (some ⟨w.heap.size, 0, none⟩)] 23) (.cells #[.int .i64 0, .map none, .int .i64 0, .int .i64 0] 31) (.cells #[.pointer none, .pointer (some ⟨w.heap.size + 1 + 1, 0, none⟩)] 24)
  generalize (((w.alloc (.cells #[.pointer none, .string ⟨#[]⟩, .int .i64 0, .int .i64 0, .pointer none, .bool false] 27)).alloc (.cells #[.pointer none, .pointer (some ⟨w.heap.size, 0, none⟩)] 23)).alloc (.cells #[.int .i64 0, .map none, .int .i64 0, .int .i64 0] 31)).alloc (.cells #[.pointer none, .pointer (some ⟨w.heap.size + 1 + 1, 0, none⟩)] 24) = w1 at *
  have T0 : Hid (∀ W, Below w1.heap.size w1 W → W.cell? ⟨w.heap.size, 0, none⟩ = some (.pointer none) ∧ W.cell? ⟨w.heap.size, 1, none⟩ = some (.string ⟨#[]⟩) ∧ W.cell? ⟨w.heap.size, 2, none⟩ = some (.int .i64 0) ∧ W.cell? ⟨w.heap.size, 3, none⟩ = some (.int .i64 0) ∧ W.cell? ⟨w.heap.size, 4, none⟩ = some (.pointer none) ∧ W.cell? ⟨w.heap.size, 5, none⟩ = some (.bool false)) := Lib.hid (fun W hW => by have e := (hW.block _ (lt_blk b0_)).trans b0_; exact ⟨by rw [cell_blk e]; rfl, by rw [cell_blk e]; rfl, by rw [cell_blk e]; rfl, by rw [cell_blk e]; rfl, by rw [cell_blk e]; rfl, by rw [cell_blk e]; rfl⟩)
  have T1 : Hid (∀ W, Below w1.heap.size w1 W → W.cell? ⟨w.heap.size + 1, 0, none⟩ = some (.pointer none) ∧ W.cell? ⟨w.heap.size + 1, 1, none⟩ = some (.pointer (some ⟨w.heap.size, 0, none⟩))) := Lib.hid (fun W hW => by have e := (hW.block _ (lt_blk b1_)).trans b1_; exact ⟨by rw [cell_blk e]; rfl, by rw [cell_blk e]; rfl⟩)
  have T2 : Hid (∀ W, Below w1.heap.size w1 W → W.cell? ⟨w.heap.size + 1 + 1, 0, none⟩ = some (.int .i64 0) ∧ W.cell? ⟨w.heap.size + 1 + 1, 1, none⟩ = some (.map none) ∧ W.cell? ⟨w.heap.size + 1 + 1, 2, none⟩ = some (.int .i64 0) ∧ W.cell? ⟨w.heap.size + 1 + 1, 3, none⟩ = some (.int .i64 0)) := Lib.hid (fun W hW => by have e := (hW.block _ (lt_blk b2_)).trans b2_; exact ⟨by rw [cell_blk e]; rfl, by rw [cell_blk e]; rfl, by rw [cell_blk e]; rfl, by rw [cell_blk e]; rfl⟩)
  have T3 : Hid (∀ W, Below w1.heap.size w1 W → W.cell? ⟨w.heap.size + 1 + 1 + 1, 0, none⟩ = some (.pointer none) ∧ W.cell? ⟨w.heap.size + 1 + 1 + 1, 1, none⟩ = some (.pointer (some ⟨w.heap.size + 1 + 1, 0, none⟩))) := Lib.hid (fun W hW => by have e := (hW.block _ (lt_blk b3_)).trans b3_; exact ⟨by rw [cell_blk e]; rfl, by rw [cell_blk e]; rfl⟩)
  have HB := Lib.hid hb_
  clear hb_ b0_ b1_ b2_ b3_
  go_loopw [7, 8, 9, 10, 11, 12] (fun iv _ _ _ _ _ wr => Below w1.heap.size w1 wr ∧ (iv = .int .i64 0 ∨ iv = .int .i64 1 ∨ iv = .int .i64 2)) (fun iv _ _ _ _ _ _ => 2 - (intOf iv).toNat)
  case atStart => exact ⟨Below.refl _ _, .inl rfl⟩
  case round =>
    obtain ⟨hb, hiv⟩ := hrel
    have HBW := Lib.hid hb
    have t1 := T1.out wr hb
    have t3 := T3.out wr hb
    obtain ⟨u1, u2⟩ := t1
    obtain ⟨u3, u4⟩ := t3
    have t0 := (T0.out wr hb).1
    have t2 := (T2.out wr hb).2.1
    clear hb
    rcases hiv with rfl | rfl | rfl
    · have HDV : Hid (ENone wr (.pointer none)) := Lib.hid (.inl rfl)
      have HSV : Hid (SNone wr (.pointer none)) := Lib.hid (.inl rfl)
      go_wp2_with fail
      refine (sopen_none HDV.out).mono ?_
      rintro e w2 ⟨rfl, rfl⟩
      go_wp2_with fail
      refine (scommit_none HSV.out _).mono ?_
      rintro e w2 ⟨rfl, rfl⟩
      go_wp2_with fail
      refine (scompact_none HSV.out _ (by first | exact .inl rfl | exact .inr ⟨_, rfl⟩)).mono ?_
      rintro e w2 ⟨rfl, hb2⟩
      have HS2 := Lib.hid (HSV.out.below hb2)
      have HB2 := Lib.hid (HBW.out.trans (hb2.mono HBW.out.size))
      clear hb2 HSV HDV HBW
      go_wp2_with fail
      refine (sfits_none HS2.out n).mono ?_
      rintro e w3 ⟨rfl, rfl⟩
      go_wp2_with fail
      refine (ssmall_none HS2.out n).mono ?_
      rintro e w3 ⟨rfl, rfl⟩
      go_wp2_with fail
      refine (sgen_none HS2.out).mono ?_
      rintro e w3 ⟨rfl, rfl⟩
      go_wp2_with fail
      refine (sused_none HS2.out).mono ?_
      rintro e w3 ⟨rfl, rfl⟩
      go_wp2_with fail
      refine (sbroken_none HS2.out).mono ?_
      rintro e w3 ⟨rfl, rfl⟩
      go_wp2_with fail
      go_roundw
      case rel => exact ⟨HB2.out, .inr (.inl (by go_num))⟩
      case measure => simp [intOf]
    · have HDV : Hid (ENone wr (.pointer (some ⟨w.heap.size + 1 + 1, 0, none⟩))) := Lib.hid (.inr ⟨_, rfl, t2⟩)
      have HSV : Hid (SNone wr (.pointer (some ⟨w.heap.size, 0, none⟩))) := Lib.hid (.inr ⟨_, rfl, t0⟩)
      go_wp2_with fail
      refine (sopen_none HDV.out).mono ?_
      rintro e w2 ⟨rfl, rfl⟩
      go_wp2_with fail
      refine (scommit_none HSV.out _).mono ?_
      rintro e w2 ⟨rfl, rfl⟩
      go_wp2_with fail
      refine (scompact_none HSV.out _ (by first | exact .inl rfl | exact .inr ⟨_, rfl⟩)).mono ?_
      rintro e w2 ⟨rfl, hb2⟩
      have HS2 := Lib.hid (HSV.out.below hb2)
      have HB2 := Lib.hid (HBW.out.trans (hb2.mono HBW.out.size))
      clear hb2 HSV HDV HBW
      go_wp2_with fail
      refine (sfits_none HS2.out n).mono ?_
      rintro e w3 ⟨rfl, rfl⟩
      go_wp2_with fail
      refine (ssmall_none HS2.out n).mono ?_
      rintro e w3 ⟨rfl, rfl⟩
      go_wp2_with fail
      refine (sgen_none HS2.out).mono ?_
      rintro e w3 ⟨rfl, rfl⟩
      go_wp2_with fail
      refine (sused_none HS2.out).mono ?_
      rintro e w3 ⟨rfl, rfl⟩
      go_wp2_with fail
      refine (sbroken_none HS2.out).mono ?_
      rintro e w3 ⟨rfl, rfl⟩
      go_wp2_with fail
      go_roundw
      case rel => exact ⟨HB2.out, .inr (.inr (by go_num))⟩
      case measure => simp [intOf]
    · have HAW := Lib.hid (awake22 wr)
      go_wp2_with fail
      refine HAW.out.mono ?_
      rintro e w2 ⟨rfl, hb2⟩
      have HB2 := Lib.hid (HB.out.trans ((HBW.out.trans (hb2.mono HBW.out.size)).mono HB.out.size))
      clear hb2
      go_wp2_with fail
      go_ret
      exact ⟨rfl, HB2.out⟩
end Go.Proofs.YtdmodhcbcpmadaaDoor
