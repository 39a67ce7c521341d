/- StoreKnown. -/
import Derived.Test.YtegekaocbalndaaGreatDoorMg13
import Derived.Test.YtegekaocbalndaaGreatDoorMg11
import Derived.Test.YtegekaocbalndaaGreatDoorMg16
import Derived.Test.YtegekaocbalndaaGreatDoorMg17
set_option linter.unusedSimpArgs false
set_option linter.unusedVariables false
namespace Go.Proofs.YtegekaocbalndaaGreatDoor
open Go.RowKit

def nmSn : Nm := [116, 49, 46, 115, 110, 97, 112]
def nmTm : Nm := [116, 49, 46, 116, 109, 112]
def nmL1 : Nm := [116, 49, 46, 108, 111, 103, 46, 49]
def sb9 : List UInt8 := snapB 1 [9]
def sb8 : List UInt8 := snapB 2 [8]
def Da : Dk := ⟨1000, [(nmL0, ⟨fr12, 14, true⟩)], -1, 2⟩
def La : Lg := ⟨nmL0, 100, 1, 14, false⟩
def Db : Dk := ⟨1000, [(nmSn, ⟨sb9, sb9.length, true⟩)], -1, 6⟩
def Lb : Lg := ⟨nmL1, 100, 0, 0, false⟩
def Dc : Dk := ⟨1000, [(nmSn, ⟨sb9, sb9.length, true⟩)], 2, 6⟩
def Dd : Dk := ⟨1000, [(nmSn, ⟨sb9, sb9.length, true⟩), (nmTm, ⟨sb8, sb8.length, true⟩)], 0, 8⟩
def De : Dk := ⟨1000, [(nmSn, ⟨sb9, sb9.length, true⟩), (nmTm, ⟨sb8, sb8.length, true⟩)], -1, 8⟩
def Df : Dk := ⟨1000, [(nmSn, ⟨sb9, sb9.length, true⟩)], -1, 9⟩
theorem ka1 : k1 Da nmT1 0 = (Da, 0) := by kernel_rfl
theorem ka2 : (k2 Da nmT1 0 [9]).2 = 0 := by kernel_rfl
theorem ka3 : (k3 Da nmT1 0 [9]).2 = 0 := by kernel_rfl
theorem ka4 : (k4 Da nmT1 0 [9]).2 = 0 := by kernel_rfl
theorem ka4f : ((k4 Da nmT1 0 [9]).1.file (logN nmT1 (0 + 1))).b.length = 0 := by kernel_rfl
theorem ka5l : (k5l Da nmT1 300 0 [9]).e = 0 := by kernel_rfl
theorem ka5m : (k5l Da nmT1 300 0 [9]).l = some Lb := by kernel_rfl
theorem ka5n : (k5l Da nmT1 300 0 [9]).d.writes = 5 := by kernel_rfl
theorem ka5 : k5 Da nmT1 300 0 [9] = (Db, 0) := by kernel_rfl
theorem kc1 : k1 Dc nmT1 1 = (Dc, 0) := by kernel_rfl
theorem kc2 : (k2 Dc nmT1 1 [8]).2 = 0 := by kernel_rfl
theorem kc3 : (k3 Dc nmT1 1 [8]).2 = 0 := by kernel_rfl
theorem kc4 : k4 Dc nmT1 1 [8] = (Dd, 13) := by kernel_rfl
theorem op_b : sopen1 Db nmT1 300 1 = ⟨Db, some Lb, [], 0⟩ := by kernel_rfl
theorem op_e : sopen1 De nmT1 300 1 = ⟨Df, some Lb, [], 0⟩ := by kernel_rfl
theorem cr_d : Dd.crash [] = De := by kernel_rfl
theorem st_b : Db.stop 2 = (Dc, 0) := by kernel_rfl
set_option maxRecDepth 100000 in
set_option maxHeartbeats 8000000 in
theorem storeknown_walk (w : World) : Calls Tryz.prog 4 #[] w fun e w' => e = .returned (.bool true) ∧ Below w.heap.size w w' := by
  have HNW := Lib.hid (new_at 1000 (by decide) (by decide) w)
  go_enter Tryz.func4, Tryz.ntmps4
  go_wp2_with fail
  refine HNW.out.mono ?_
  rintro e w1 ⟨rfl, hd1, hb1⟩
  have HB1 := Lib.hid hb1; have HD1 := Lib.hid hd1
  have hop := sopen0_at hd1 (by decide) nmT1 (by decide) 300 (by decide) (by kernel_rfl) (by show 0 ≤ _; omega)
  rw [open_fresh] at hop
  have HOP := Lib.hid hop
  clear hd1 hb1 HNW hop
  go_wp2_with fail
  refine HOP.out.mono ?_
  rintro e w2 ⟨hd2, hw2, pv, A, c, rfl, _, _, _, s, q, rfl, hst, hlg, hs, hq, _⟩
  have hsz := HB1.out.size
  have HS2 : Hid (S22 w w2 s q (w.heap.size + 1) w.heap.size nmT1 300 0 false (emptyDk 1000) ⟨nmL0, 100, 0, 0, false⟩) := Lib.hid ⟨⟨hd2, hlg, hst⟩, below_bw2 HB1.out hw2.bw (by simp), by omega, Nat.le_refl _, by omega, by omega⟩
  clear hd2 hw2 hst hlg HOP
  go_wp2_with fail
  obtain ⟨hbx, hby⟩ := boxes1 w2 (.cells #[.int .u8 1, .int .u8 2] 5)
  have HX3 := Lib.hid hbx
  have HS3 := Lib.hid (HS2.out.after hby)
  clear hbx hby HS2
  generalize w2.alloc (.cells #[.int .u8 1, .int .u8 2] 5) = w3 at *
  refine (HS3.out.commit ⟨by decide, by decide, by decide, by decide⟩ (by decide) [1, 2] 2 rfl (some ⟨w2.heap.size, 0, none⟩) 2 (Bs.blk (l := [1, 2]) HX3.out) (by intro h; cases h) com_one).mono ?_
  rintro e w4 ⟨rfl, hs4⟩
  have HS4 : Hid (S22 w w4 s q (w.heap.size + 1) w.heap.size nmT1 (300 : Nat) (0 : Nat) false Da La) := Lib.hid hs4
  clear hs4 HS3 HX3
  go_wp2_with fail
  obtain ⟨hbx, hby⟩ := boxes1 w4 (.cells #[.int .u8 9] 5)
  have HX5 := Lib.hid hbx
  have HS5 := Lib.hid (HS4.out.after hby)
  clear hbx hby HS4
  generalize w4.alloc (.cells #[.int .u8 9] 5) = w5 at *
  refine (HS5.out.compact (L' := Lb) (by decide) (by decide) (by decide) (by decide) [9] 1 rfl (by decide) (some ⟨w4.heap.size, 0, none⟩) 1 (Bs.blk (l := [9]) HX5.out) (by intro h; cases h) (by kernel_rfl) (fun _ _ _ _ => ⟨ka5l, ka5m, by rw [ka4f]; decide, by rw [ka5n]; decide⟩)).mono ?_
  rintro e w6 ⟨z, d', g', L'', q', rfl, hc, hs6⟩
  obtain ⟨rfl, rfl, rfl, rfl⟩ := cend_all hc (by rw [ka1]) ka2 ka3 ka4
  rw [ka5] at hs6 ⊢
  have HS6 : Hid (S22 w w6 s q' (w.heap.size + 1) w.heap.size nmT1 (300 : Nat) (1 : Nat) false Db Lb) := Lib.hid hs6
  clear hs6 hc HS5 HX5
  go_wp2_with fail
  refine (sgen_at HS6.out.sto.st).mono ?_
  rintro e w6' ⟨rfl, hw⟩
  rw [hw]
  clear hw
  have HOP := sopen1_at HS6.out.sto.disk (by decide) nmT1 (by decide) (by kernel_rfl) 300 (by decide) (by decide) 1 (by decide) (by decide) [9] (by kernel_rfl) (by kernel_rfl) (by kernel_rfl) (by show 0 ≤ _; omega)
  rw [op_b] at HOP
  have HOP := Lib.hid HOP
  go_wp2_with fail
  refine HOP.out.mono ?_
  rintro e w7 ⟨hd7, hw7, ⟨h0, _⟩ | ⟨_, pv, As, cs, Ar, cr, rfl, hbs, hbs0, hls, hls0, hcr, s7, q7, rfl, hst7, hlg7, hs7, hq7, _⟩⟩
  · exact absurd rfl h0
  have HS7 : Hid (S22 w w7 s7 q7 (w.heap.size + 1) w.heap.size nmT1 (300 : Nat) (1 : Nat) false Db Lb) := Lib.hid (by
    have hz := HS6.out.below.size; have hn := HS6.out.new
    exact ⟨⟨hd7, hlg7, hst7⟩, below_bw2 HS6.out.below hw7.bw (by simp <;> omega), by omega, by omega, by omega, by omega⟩)
  have HBS7 := Lib.hid hbs; have HBS0 := Lib.hid hbs0; have HLS7 := Lib.hid hls
  clear hd7 hw7 hbs hbs0 hls hls0 hst7 hlg7 hs7 hq7 HOP HS6
  simp only [List.length_cons, List.length_nil]
  go_wp2_with fail
  obtain ⟨b0_, hb_⟩ := boxes1 w7 (.cells #[.int .u8 9] 5)
  generalize w7.alloc (.cells #[.int .u8 9] 5) = w8 at *
  have T8b : Hid (∀ W, Below w8.heap.size w8 W → W.heap[w7.heap.size]? = some (.cells #[.int .u8 9] 5 (0, 0))) := Lib.hid (fun W hW => (hW.block _ (lt_blk b0_)).trans b0_)
  have T8 : Hid (∀ W, Below w8.heap.size w8 W → W.cell? ⟨w7.heap.size, 0, none⟩ = some (.int .u8 9)) := Lib.hid (fun W hW => by have e := (hW.block _ (lt_blk b0_)).trans b0_; exact by rw [cell_blk e]; rfl)
  have HB8 := Lib.hid hb_
  clear hb_ b0_
  have HS8 := Lib.hid (HS7.out.after HB8.out); have HBS8 := Lib.hid ((HBS7.out.below HB8.out).more HB8.out.size)
  have hsb := same_bytes [9] [9] As (some ⟨w7.heap.size, 0, none⟩) 1 1 cs 1 w8 _ _ rfl rfl HBS8.out HBS0.out (Bs.blk (l := [9]) (T8b.out w8 (Below.refl _ _))) (by intro h; cases h)
  rw [decide_eq_true rfl] at hsb
  have HSB := Lib.hid hsb
  clear hsb HBS7 HBS8 HS7 T8 T8b
  refine HSB.out.mono ?_
  rintro e w8' ⟨rfl, hw⟩
  rw [← hw]
  clear hw HSB
  have hsm1 := ssmallm_at (R := 300) HS8.out.sto.st (by decide) 77 (by decide)
  rw [show smallB 77 300 = true from by kernel_rfl] at hsm1
  have HSM1 := Lib.hid hsm1
  clear hsm1
  go_wp2_with fail
  refine HSM1.out.mono ?_
  rintro e w9 ⟨rfl, hb9⟩
  have HS9 := Lib.hid (HS8.out.after hb9)
  have hsm1 := ssmallm_at (R := 300) HS9.out.sto.st (by decide) 78 (by decide)
  rw [show smallB 78 300 = false from by kernel_rfl] at hsm1
  have HSM2 := Lib.hid hsm1
  clear hb9 HSM1 hsm1 HS8
  go_wp2_with fail
  refine HSM2.out.mono ?_
  rintro e w10 ⟨rfl, hb9⟩
  have HS10 := Lib.hid (HS9.out.after hb9)
  have hsm1 := sfits_at HS10.out.sto ⟨by decide, by decide, by decide, by decide⟩ 88
  rw [show lfits Lb 88 = true from by kernel_rfl] at hsm1
  have HSM3 := Lib.hid hsm1
  clear hb9 HSM2 hsm1 HS9
  go_wp2_with fail
  refine HSM3.out.mono ?_
  rintro e w11 ⟨rfl, hb9⟩
  have HS11 := Lib.hid (HS10.out.after hb9)
  have hsm1 := sfits_at HS11.out.sto ⟨by decide, by decide, by decide, by decide⟩ 89
  rw [show lfits Lb 89 = false from by kernel_rfl] at hsm1
  have HSM4 := Lib.hid hsm1
  clear hb9 HSM3 hsm1 HS10
  go_wp2_with fail
  refine HSM4.out.mono ?_
  rintro e w12 ⟨rfl, hb9⟩
  have HS12 := Lib.hid (HS11.out.after hb9)
  have hst := stop_at HS12.out.sto.disk 2 (by decide)
  rw [st_b] at hst
  have HST := Lib.hid hst
  clear hb9 HSM4 hst HS11
  go_wp2_with fail
  refine HST.out.mono ?_
  rintro e w13 ⟨rfl, hs1, hs2⟩
  have HS13 := Lib.hid (HS12.out.step hs1 hs2)
  clear hs1 hs2 HST HS12
  go_wp2_with fail
  obtain ⟨b0_, hb_⟩ := boxes1 w13 (.cells #[.int .u8 8] 5)
  generalize w13.alloc (.cells #[.int .u8 8] 5) = w14 at *
  have T14b : Hid (∀ W, Below w14.heap.size w14 W → W.heap[w13.heap.size]? = some (.cells #[.int .u8 8] 5 (0, 0))) := Lib.hid (fun W hW => (hW.block _ (lt_blk b0_)).trans b0_)
  have T14 : Hid (∀ W, Below w14.heap.size w14 W → W.cell? ⟨w13.heap.size, 0, none⟩ = some (.int .u8 8)) := Lib.hid (fun W hW => by have e := (hW.block _ (lt_blk b0_)).trans b0_; exact by rw [cell_blk e]; rfl)
  have HB14 := Lib.hid hb_
  clear hb_ b0_
  have HS14 := Lib.hid (HS13.out.after HB14.out)
  clear HS13
  refine (HS14.out.compact (L' := Lb) (by decide) (by decide) (by decide) (by decide) [8] 1 rfl (by decide) (some ⟨w13.heap.size, 0, none⟩) 1 (Bs.blk (l := [8]) (T14b.out w14 (Below.refl _ _))) (by intro h; cases h) (by kernel_rfl) (fun _ _ _ h => by rw [kc4] at h; cases h)).mono ?_
  rintro e w15 ⟨z, d', g', L'', q15, rfl, hc, hs15⟩
  obtain ⟨rfl, rfl, rfl, rfl⟩ := cend_four hc (by rw [kc1]) kc2 kc3 (by rw [kc4]; decide)
  rw [kc4] at hs15 ⊢
  have HS15 : Hid (S22 w w15 s7 q15 (w.heap.size + 1) w.heap.size nmT1 (300 : Nat) (1 : Nat) true Dd Lb) := Lib.hid hs15
  clear hs15 hc HS14 T14 T14b
  go_wp2_with fail
  refine (sbroken_at HS15.out.sto.st).mono ?_
  rintro e w15' ⟨rfl, hw⟩
  rw [hw]
  clear hw
  go_wp2_with fail
  obtain ⟨b0_, hb_⟩ := boxes1 w15 (.cells #[.int .u8 4] 5)
  generalize w15.alloc (.cells #[.int .u8 4] 5) = w16 at *
  have T16b : Hid (∀ W, Below w16.heap.size w16 W → W.heap[w15.heap.size]? = some (.cells #[.int .u8 4] 5 (0, 0))) := Lib.hid (fun W hW => (hW.block _ (lt_blk b0_)).trans b0_)
  have T16 : Hid (∀ W, Below w16.heap.size w16 W → W.cell? ⟨w15.heap.size, 0, none⟩ = some (.int .u8 4)) := Lib.hid (fun W hW => by have e := (hW.block _ (lt_blk b0_)).trans b0_; exact by rw [cell_blk e]; rfl)
  have HB16 := Lib.hid hb_
  clear hb_ b0_
  have HS16 := Lib.hid (HS15.out.after HB16.out)
  clear HS15 T16 T16b
  refine (scommit_broken HS16.out.sto.st (some ⟨w15.heap.size, 0, none⟩) 1 1).mono ?_
  rintro e w16' ⟨rfl, hw⟩
  rw [hw]
  clear hw
  have hcr := crash_at HS16.out.sto.disk (by decide) [] 0 rfl (by decide) none 0 (fun i hi => absurd hi (by simp))
  rw [cr_d] at hcr
  have HCR := Lib.hid hcr
  clear hcr
  go_wp2_with fail
  refine HCR.out.mono ?_
  rintro e w17 ⟨rfl, hs1, hs2⟩
  have HS17 := Lib.hid (HS16.out.step hs1 hs2)
  clear hs1 hs2 HCR HS16
  have HOP := sopen1_at HS17.out.sto.disk (by decide) nmT1 (by decide) (by kernel_rfl) 300 (by decide) (by decide) 1 (by decide) (by decide) [9] (by kernel_rfl) (by kernel_rfl) (by kernel_rfl) (by show 0 ≤ _; omega)
  rw [op_e] at HOP
  have HOP := Lib.hid HOP
  go_wp2_with fail
  refine HOP.out.mono ?_
  rintro e w18 ⟨hd7, hw7, ⟨h0, _⟩ | ⟨_, pv, As2, cs2, Ar2, cr2, rfl, hbs, hbs0, hls, hls0, hcr2, s8, q8, rfl, hst7, hlg7, hs7', hq7', _⟩⟩
  · exact absurd rfl h0
  have HS18 := Lib.hid (HS17.out.step hd7 hw7)
  have HBS18 := Lib.hid hbs; have HBS02 := Lib.hid hbs0
  clear hd7 hw7 hbs hbs0 hls hls0 hst7 hlg7 hs7' hq7' HOP HS17
  simp only [List.length_cons, List.length_nil]
  have HO1 := Lib.hid (sopenbad_at HS18.out.sto.disk [84, 49] (by decide) 300 (.inl (by kernel_rfl)))
  go_wp2_with fail
  refine HO1.out.mono ?_
  rintro e w19 ⟨rfl, hb⟩
  have HS19 := Lib.hid (HS18.out.after hb); have HBS19 := Lib.hid ((HBS18.out.below hb).more hb.size)
  clear hb HBS18 HO1 HS18
  have HO2 := Lib.hid (sopenbad_at HS19.out.sto.disk nmT1 (by decide) 99 (.inr (.inl (by decide))))
  go_wp2_with fail
  refine HO2.out.mono ?_
  rintro e w20 ⟨rfl, hb⟩
  have HS20 := Lib.hid (HS19.out.after hb); have HBS20 := Lib.hid ((HBS19.out.below hb).more hb.size)
  clear hb HBS19 HO2 HS19
  go_wp2_with fail
  refine (awake22 w20).mono ?_
  rintro e w21 ⟨rfl, hb⟩
  have HS21 := Lib.hid (HS20.out.after hb); have HBS21 := Lib.hid ((HBS20.out.below hb).more hb.size)
  clear hb HBS20 HS20
  go_wp2_with fail
  obtain ⟨b0_, hb_⟩ := boxes1 w21 (.cells #[.int .u8 9] 5)
  generalize w21.alloc (.cells #[.int .u8 9] 5) = w22 at *
  have T22b : Hid (∀ W, Below w22.heap.size w22 W → W.heap[w21.heap.size]? = some (.cells #[.int .u8 9] 5 (0, 0))) := Lib.hid (fun W hW => (hW.block _ (lt_blk b0_)).trans b0_)
  have T22 : Hid (∀ W, Below w22.heap.size w22 W → W.cell? ⟨w21.heap.size, 0, none⟩ = some (.int .u8 9)) := Lib.hid (fun W hW => by have e := (hW.block _ (lt_blk b0_)).trans b0_; exact by rw [cell_blk e]; rfl)
  have HB22 := Lib.hid hb_
  clear hb_ b0_
  have HS22 := Lib.hid (HS21.out.after HB22.out); have HBS22 := Lib.hid ((HBS21.out.below HB22.out).more HB22.out.size)
  have hsb := same_bytes [9] [9] As2 (some ⟨w21.heap.size, 0, none⟩) 1 1 cs2 1 w22 _ _ rfl rfl HBS22.out HBS02.out (Bs.blk (l := [9]) (T22b.out w22 (Below.refl _ _))) (by intro h; cases h)
  rw [decide_eq_true rfl] at hsb
  have HSB := Lib.hid hsb
  clear hsb HBS21 HBS22 HS21 T22 T22b
  refine HSB.out.mono ?_
  rintro e w22' ⟨rfl, hw⟩
  rw [← hw]
  clear hw HSB
  have HNA := Lib.hid (names_at HS22.out.sto.disk)
  go_wp2_with fail
  refine HNA.out.mono ?_
  rintro e w23 ⟨v23, rfl, ho, hb⟩
  have ho2 : w23.ownsRow w22.heap.size 9 1 v23 1 [encStr nmSn] := ho
  obtain ⟨A23, c23, rfl, hr23, _, _⟩ := own_rd ho2
  have HS23 := Lib.hid (HS22.out.after hb); have HR23 := Lib.hid hr23
  clear ho ho2 hr23 hb HNA HS22
  go_wp2_with fail
  obtain ⟨b0_, hb_⟩ := boxes1 w23 (.cells #[.string ⟨#[116, 49, 46, 115, 110, 97, 112]⟩] 9)
  generalize w23.alloc (.cells #[.string ⟨#[116, 49, 46, 115, 110, 97, 112]⟩] 9) = w24 at *
  have T24b : Hid (∀ W, Below w24.heap.size w24 W → W.heap[w23.heap.size]? = some (.cells #[.string ⟨#[116, 49, 46, 115, 110, 97, 112]⟩] 9 (0, 0))) := Lib.hid (fun W hW => (hW.block _ (lt_blk b0_)).trans b0_)
  have T24 : Hid (∀ W, Below w24.heap.size w24 W → W.cell? ⟨w23.heap.size, 0, none⟩ = some (.string ⟨#[116, 49, 46, 115, 110, 97, 112]⟩)) := Lib.hid (fun W hW => by have e := (hW.block _ (lt_blk b0_)).trans b0_; exact by rw [cell_blk e]; rfl)
  have HB24 := Lib.hid hb_
  clear hb_ b0_
  have HS24 := Lib.hid (HS23.out.after HB24.out)
  have hst := same_texts [nmSn] 1 rfl (by decide) A23 (some ⟨w23.heap.size, 0, none⟩) c23 1 w24.heap.size w24 ((HR23.out.keep fun b o hb => HB24.out.cell (p := ⟨b, o, none⟩) hb).more HB24.out.size) (fun i u hu => by
    have hb24 := T24b.out w24 (Below.refl _ _)
    match i, hu with
    | 0, hu => cases hu; exact ⟨w23.heap.size, 0, rfl, lt_blk hb24, by rw [cell_blk hb24]; rfl⟩
    | i + 1, hu => simp at hu) (Nat.le_refl _)
  have HST := Lib.hid hst
  clear hst HR23 HS23 T24 T24b
  refine HST.out.mono ?_
  rintro e w25 ⟨rfl, hb⟩
  have HS25 := Lib.hid (HS24.out.after hb)
  clear hb HS24 HST
  go_wp2_with fail
  go_ret
  exact ⟨rfl, HS25.out.below⟩
end Go.Proofs.YtegekaocbalndaaGreatDoor
