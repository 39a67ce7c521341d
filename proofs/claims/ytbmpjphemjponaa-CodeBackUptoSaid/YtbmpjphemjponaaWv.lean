/- code.Read. -/
import Derived.Test.YtbmpjphemjponaaMg1
set_option linter.unusedSimpArgs false
set_option linter.unusedVariables false
namespace Go.Proofs.Ytbmpjphemjponaa
open Go.RowKit

theorem below_set3 (w : World) (g : Nat) (x y z : Value) : Below g w (((w.setCell ⟨g, 0, none⟩ x).setCell ⟨g, 1, none⟩ y).setCell ⟨g, 2, none⟩ z) := Below.setCell (p := ⟨g, 2, none⟩) (below_set2 w g x y) (Nat.le_refl _) z
theorem spares_set3 {w : World} {g : Nat} {T : TypeId} {cs : Array Value} (h : w.heap[g]? = some (.cells cs T (0, 0))) (x y z : Value) : Spares T w (((w.setCell ⟨g, 0, none⟩ x).setCell ⟨g, 1, none⟩ y).setCell ⟨g, 2, none⟩ z) :=
  Spares.own_blk (grown_setCell (grown_setCell (grown_setCell (World.grownBy.refl w (some g)) (p := ⟨g, 0, none⟩) rfl x) (p := ⟨g, 1, none⟩) rfl y) (p := ⟨g, 2, none⟩) rfl z) h
theorem cdv_eq' {sh : List Vl} {bs : List Bd} {mt : Int} {n m : Nat} (h1 : sh.length = n) (h2 : bs.length = m) (A A' : Option Addr) (a a' : Nat) : cdv ⟨sh, mt, bs⟩ (A, a) (A', a') = .agg #[.slice A n a, .int .i64 mt, .slice A' m a'] := by unfold cdv; rw [h1, h2]
/-- what code.Read answers. -/
def ReadP (l : List UInt8) (w : World) (e : Ending) (w' : World) : Prop := match readL l with
  | some c => ∃ p q : Slc, e = .returned (.tuple #[cdv c p q, .int .i64 0]) ∧ OwV w' w.heap.size p c.shared ∧ OwBs w' w.heap.size q c.bodies
  | none => e = .returned (.tuple #[.agg #[.slice none 0 0, .int .i64 0, .slice none 0 0], .int .i64 4])
def zBody : Array Value := #[.slice none 0 0, .int .i64 0, .slice none 0 0]
set_option maxRecDepth 100000 in
set_option maxHeartbeats 4000000 in
theorem read_any (l : List UInt8) (hl : l.length ≤ 100000000) (A : Option Addr) (cap B : Nat) (w : World) (hA : Bs w B A l) (hA0 : A = none → l = []) (hB : B ≤ w.heap.size) :
    Calls Try.prog 17 #[.slice A l.length cap] w fun e w' => ReadP l w e w' ∧ Below w.heap.size w w' := by
  have HCl := Lib.hid (fun W (h : Below w.heap.size w W) => clone_bytes l hl A cap B W (hA.below (h.mono hB)) hA0 (Nat.le_trans hB h.size))
  have HN := Lib.hid (fun k (h1 : 1 ≤ k) (h8 : k ≤ 8) W s g h => number_rd k h1 h8 s g W h)
  have HVs := Lib.hid (fun W s g h => values_rd s g W h)
  generalize hc : rdL rdBd (rdN 1 (rdN 1 (rdVs (l, false)).2).2).1 (rdN 1 (rdN 1 (rdVs (l, false)).2).2).2 [] = total
  have HC := Lib.hid hc
  have HV : Hid (rdCd (l, false) = (⟨(rdVs (l, false)).1, (rdN 1 (rdVs (l, false)).2).1, total.1⟩, total.2)) := Lib.hid (by rw [← hc]; rfl)
  have HP : Hid (∀ e w', (match (if (rdCd (l, false)).2 = ([], false) ∧ chk (rdCd (l, false)).1 = 0 then some (rdCd (l, false)).1 else none) with
    | some c => ∃ p q : Slc, e = .returned (.tuple #[cdv c p q, .int .i64 0]) ∧ OwV w' w.heap.size p c.shared ∧ OwBs w' w.heap.size q c.bodies
    | none => e = .returned (.tuple #[.agg #[.slice none 0 0, .int .i64 0, .slice none 0 0], .int .i64 4])) → ReadP l w e w') := Lib.hid (fun _ _ h => h)
  have HIn := Lib.hid (rdCd_in (l, false))
  clear hA hc
  generalize ReadP l w = post at *
  generalize rdCd (l, false) = cc at *
  generalize hvs : rdVs (l, false) = vs at *
  have HVS := Lib.hid hvs
  clear hvs
  obtain ⟨sh, s1⟩ := vs
  dsimp only at *
  have N1 := Lib.hid (fun W g h => HN.out 1 (by omega) (by omega) W s1 g h); have b1 := rdN_lt 1 s1
  generalize rdN 1 s1 = q1 at *
  obtain ⟨mt, s2⟩ := q1
  dsimp only at *
  have N2 := Lib.hid (fun W g h => HN.out 1 (by omega) (by omega) W s2 g h); have b2 := rdN_lt 1 s2
  generalize rdN 1 s2 = q2 at *
  obtain ⟨nb, s3⟩ := q2
  dsimp only at *
  have e1 := wi64 mt (by omega) (by omega); have e2 := wi64 nb (by omega) (by omega)
  have hnb : nb ≤ 255 := by omega
  clear b1 b2
  have hlen : l.length = l.length := rfl
  go_enter Try.func17, Try.ntmps17
  go_upto_region 1 with (fail)
  obtain ⟨b0_, hb_⟩ := boxes1 w (.cells #[.slice none 0 0, .int .i64 0, .slice none 0 0] 25)
  generalize w.alloc (.cells #[.slice none 0 0, .int .i64 0, .slice none 0 0] 25) = w0 at *
  have T2b : Hid (∀ W, Below w0.heap.size w0 W → W.heap[w.heap.size]? = some (.cells #[.slice none 0 0, .int .i64 0, .slice none 0 0] 25 (0, 0))) := Lib.hid (fun W hW => (hW.block _ (lt_blk b0_)).trans b0_)
  have T2 : Hid (∀ W, Below w0.heap.size w0 W → W.cell? ⟨w.heap.size, 0, none⟩ = some (.slice none 0 0) ∧ W.cell? ⟨w.heap.size, 1, none⟩ = some (.int .i64 0) ∧ W.cell? ⟨w.heap.size, 2, none⟩ = some (.slice none 0 0)) := Lib.hid (fun W hW => by have e := (hW.block _ (lt_blk b0_)).trans b0_; exact ⟨by rw [cell_blk e]; rfl, by rw [cell_blk e]; rfl, by rw [cell_blk e]; rfl⟩)
  have B0 := Lib.hid hb_
  clear hb_ b0_
  go_wp2_with fail
  refine (HCl.out _ B0.out).mono ?_
  rintro e w1 ⟨Ac, cc1, rfl, hbs, hbn, hbc, hb1⟩
  have B1 := Lib.hid (B0.out.trans (hb1.mono B0.out.size)); have X2 := Lib.hid (T2b.out _ hb1)
  have HBs := Lib.hid hbs; have HBn := Lib.hid hbn
  clear hb1 hbs hbn T2 T2b
  go_upto_region 2 with (fail)
  have HL := Lib.hid (show l.length ≤ 1000000000 by omega)
  obtain ⟨b0_, hb_⟩ := boxes1 w1 (.cells #[.slice Ac l.length cc1, .bool false] 78)
  generalize w1.alloc (.cells #[.slice Ac l.length cc1, .bool false] 78) = w2 at *
  have T4b : Hid (∀ W, Below w2.heap.size w2 W → W.heap[w1.heap.size]? = some (.cells #[.slice Ac l.length cc1, .bool false] 78 (0, 0))) := Lib.hid (fun W hW => (hW.block _ (lt_blk b0_)).trans b0_)
  have T4 : Hid (∀ W, Below w2.heap.size w2 W → W.cell? ⟨w1.heap.size, 0, none⟩ = some (.slice Ac l.length cc1) ∧ W.cell? ⟨w1.heap.size, 1, none⟩ = some (.bool false)) := Lib.hid (fun W hW => by have e := (hW.block _ (lt_blk b0_)).trans b0_; exact ⟨by rw [cell_blk e]; rfl, by rw [cell_blk e]; rfl⟩)
  have B2 := Lib.hid hb_
  clear hb_ b0_
  have hlt2 : w.heap.size < w1.heap.size := lt_blk X2.out
  have HS2 : Hid (RdS w2 w1.heap.size (l, false)) := Lib.hid ⟨Ac, cc1, T4b.out w2 (Below.refl _ _), HBs.out.below B2.out, HBn.out, hbc, HL.out⟩
  have X2 := Lib.hid ((B2.out.block _ (lt_blk X2.out)).trans X2.out)
  have Bw2 := Lib.hid (B1.out.trans (B2.out.mono B1.out.size))
  clear T4 T4b HBs HBn hbc B2
  generalize hg : w1.heap.size = g at *
  have hgw : w.heap.size < g := by omega
  clear hg hlt2
  have hg2 := HS2.out.lt
  have HVs1 := Lib.hid (HVs.out w2 (l, false) g HS2.out)
  rw [HVS.out] at HVs1
  go_wp2_with fail
  refine HVs1.out.mono ?_
  rintro e w3 ⟨p, rfl, ho, hr, hk⟩
  obtain ⟨Ap, cp⟩ := p
  have OV := Lib.hid ho; have R3 := Lib.hid hr; have K3 := Lib.hid hk
  clear ho hr hk HVs1
  dsimp only
  generalize hn1 : sh.length = n1 at *
  have M1 := Lib.hid hn1
  clear hn1
  go_wp2_with fail
  refine (N1.out w3 g R3.out).mono ?_
  rintro e w4 ⟨rfl, hr, hk⟩
  have R4 := Lib.hid hr; have K4 := Lib.hid (K3.out.trans hk); have OV := Lib.hid (OV.out.rk hk)
  clear hr hk N1
  go_upto_region 3 with (fail)
  obtain ⟨b0_, hb_⟩ := boxes1 w4 (.cells #[.slice Ap n1 cp, .int .i64 mt, .slice none 0 0] 25)
  generalize w4.alloc (.cells #[.slice Ap n1 cp, .int .i64 mt, .slice none 0 0] 25) = w5 at *
  have T5b : Hid (∀ W, Below w5.heap.size w5 W → W.heap[w4.heap.size]? = some (.cells #[.slice Ap n1 cp, .int .i64 mt, .slice none 0 0] 25 (0, 0))) := Lib.hid (fun W hW => (hW.block _ (lt_blk b0_)).trans b0_)
  have T5 : Hid (∀ W, Below w5.heap.size w5 W → W.cell? ⟨w4.heap.size, 0, none⟩ = some (.slice Ap n1 cp) ∧ W.cell? ⟨w4.heap.size, 1, none⟩ = some (.int .i64 mt) ∧ W.cell? ⟨w4.heap.size, 2, none⟩ = some (.slice none 0 0)) := Lib.hid (fun W hW => by have e := (hW.block _ (lt_blk b0_)).trans b0_; exact ⟨by rw [cell_blk e]; rfl, by rw [cell_blk e]; rfl, by rw [cell_blk e]; rfl⟩)
  have B5 := Lib.hid hb_
  clear hb_ b0_
  have h24 : w2.heap.size ≤ w4.heap.size := K4.out.1.1
  have R5 := Lib.hid (R4.out.below B5.out); have K5 := Lib.hid (K4.out.later (Nat.le_of_lt hg2) (B5.out.mono h24)); have OV := Lib.hid (OwV.below OV.out B5.out)
  have X5 := Lib.hid (T5b.out w5 (Below.refl _ _))
  have hg5 : w2.heap.size ≤ w4.heap.size := h24
  generalize w4.heap.size = g5 at *
  clear T5 T5b B5 h24 R4 K4 R3 K3 HS2
  go_wp2_with fail
  refine (N2.out w5 g R5.out).mono ?_
  rintro e w6 ⟨rfl, hr, hk⟩
  have R6 := Lib.hid hr; have K6 := Lib.hid (K5.out.trans hk); have OV := Lib.hid (OV.out.rk hk); have X6 := Lib.hid (hk.blk (by decide) X5.out)
  clear hr hk N2 e1
  go_wp2_with fail
  go_loopw [6] (fun iv wr => ∃ (k : Nat) (s4 : Rst) (acc : List Bd) (q : Slc), iv = .int .i64 k ∧ k ≤ 255 ∧ acc.length ≤ 255 - k ∧ total = rdL rdBd k s4 acc ∧ wr.heap[g5]? = some (.cells #[.slice Ap n1 cp, .int .i64 mt, .slice q.1 acc.length q.2] 25 (0, 0)) ∧ OwV wr w2.heap.size (Ap, cp) sh ∧ OwBs wr w2.heap.size q acc ∧ RdS wr g s4 ∧ RK g w2 wr) (fun iv _ => (intOf iv).toNat)
  case atStart => exact ⟨nb, s3, [], (none, 0), by first | rfl | go_num, by omega, by simp, HC.out.symm, X6.out, OV.out, OwBs.nil _ _, R6.out, K6.out⟩
  case round =>
    obtain ⟨wo, rfl⟩ : ∃ x, x = wr := ⟨wr, rfl⟩
    obtain ⟨k, s4, acc, q, rfl, hk, hac, ht, hx5, hov, hob, hrs, hkk⟩ := hrel
    have HT := Lib.hid ht; have X5 := Lib.hid hx5; have OV := Lib.hid hov; have OB := Lib.hid hob; have RR := Lib.hid hrs; have KK := Lib.hid hkk
    clear ht hx5 hov hob hrs hkk R6 K6 X6 R5 K5
    by_cases h0 : k = 0
    · subst h0
      have d : decide ((0 : Int) < ((0 : Nat) : Int)) = false := rfl
      have HE : Hid (total = (acc, s4)) := Lib.hid HT.out
      clear HT
      have HVc : Hid (cc = (⟨sh, mt, acc⟩, s4)) := Lib.hid (by rw [HV.out, HE.out])
      have HXc : Hid (CdSmall ⟨sh, mt, acc⟩ ∧ CdIn ⟨sh, mt, acc⟩) := Lib.hid (by
        have h := HIn.out
        rw [HVc.out] at h
        obtain ⟨h1, h2, h3, h4⟩ := h
        exact ⟨⟨Nat.le_trans h2 (by omega), Nat.le_trans h3 (by omega), fun i hi => ⟨Nat.le_trans (h4 i hi).1 (by omega), Nat.le_trans (h4 i hi).2.1 (by omega), fun j hj => Nat.le_trans ((h4 i hi).2.2 j hj) (by omega)⟩⟩, h1⟩)
      have HF : Hid (¬ (s4 = ([], false) ∧ chk ⟨sh, mt, acc⟩ = 0) → ∀ w', post (.returned (.tuple #[.agg #[.slice none 0 0, .int .i64 0, .slice none 0 0], .int .i64 4])) w') := Lib.hid (fun h w' => HP.out _ _ (by rw [if_neg (by rw [HVc.out]; exact h)]))
      have HG : Hid (s4 = ([], false) → chk ⟨sh, mt, acc⟩ = 0 → ∀ p q w', OwV w' w.heap.size p sh → OwBs w' w.heap.size q acc → post (.returned (.tuple #[cdv ⟨sh, mt, acc⟩ p q, .int .i64 0])) w') := Lib.hid (fun h1 h2 p q w' h3 h4 => HP.out _ _ (by
        rw [if_pos (by rw [HVc.out]; exact ⟨h1, h2⟩)]
        rw [HVc.out]
        exact ⟨p, q, rfl, h3, h4⟩))
      have HCk := Lib.hid (fun W (hW : Below wo.heap.size wo W) => check_any ⟨sh, mt, acc⟩ HXc.out.1 HXc.out.2 (Ap, cp) q wo.heap.size W (OV.out.at.below hW) (OB.out.at.below hW) hW.size)
      rw [cdv_eq' M1.out (rfl : acc.length = acc.length) Ap q.1 cp q.2] at HCk
      clear HV HIn HP HE HXc HVc HN HVs
      obtain ⟨Ar, capr, xr, -⟩ := RR.out
      have XR := Lib.hid xr
      have r0 : wo.cell? ⟨g, 0, none⟩ = some (.slice Ar s4.1.length capr) := by rw [cell_blk xr]; rfl
      have r1 : wo.cell? ⟨g, 1, none⟩ = some (.bool s4.2) := by rw [cell_blk xr]; rfl
      clear xr
      have d0 : wo.cell? ⟨g5, 0, none⟩ = some (.slice Ap n1 cp) := by rw [cell_blk X5.out]; rfl
      have d1 : wo.cell? ⟨g5, 1, none⟩ = some (.int .i64 mt) := by rw [cell_blk X5.out]; rfl
      have d2 : wo.cell? ⟨g5, 2, none⟩ = some (.slice q.1 acc.length q.2) := by rw [cell_blk X5.out]; rfl
      have XZ0 := Lib.hid (KK.out.blk (by decide) X2.out)
      have BZ0 := Lib.hid (Bw2.out.trans (KK.out.2.mono (Nat.le_of_lt hgw)))
      obtain ⟨ls, bd⟩ := s4
      dsimp only at *
      generalize hls : ls.length = nl at *
      have HLs := Lib.hid hls
      clear hls
      cases bd
      rotate_left
      · obtain ⟨wz, e9⟩ : ∃ x, x = wo := ⟨_, rfl⟩; subst e9
        have XZ := XZ0; have BZ := BZ0
        have HF9 := Lib.hid (HF.out (fun h => by have := h.1; injection this with a b; cases b))
        have z0 : wz.cell? ⟨w.heap.size, 0, none⟩ = some (.slice none 0 0) := by rw [cell_blk XZ.out]; rfl
        have z1 : wz.cell? ⟨w.heap.size, 1, none⟩ = some (.int .i64 0) := by rw [cell_blk XZ.out]; rfl
        have z2 : wz.cell? ⟨w.heap.size, 2, none⟩ = some (.slice none 0 0) := by rw [cell_blk XZ.out]; rfl
        have fz : ∀ j, wz.frozen? ⟨w.heap.size, j, none⟩ = false := fun j => free_blk XZ.out j
        go_wp2_with fail
        have Bf := below_set3 wz w.heap.size (.slice none 0 0) (.int .i64 0) (.slice none 0 0)
        exact bodyPost_ret (v := .tuple #[.agg #[.slice none 0 0, .int .i64 0, .slice none 0 0], .int .i64 4]) (by simp [results, Try.results17, go_sem, z0, z1, z2]) rfl ⟨HF9.out _, BZ.out.trans Bf⟩
      by_cases hl0 : nl = 0
      rotate_left
      · have dl : decide ((0 : Int) < (nl : Int)) = true := decide_eq_true (by omega)
        have dl2 : 0 < nl := by omega
        obtain ⟨wz, e9⟩ : ∃ x, x = wo := ⟨_, rfl⟩; subst e9
        have XZ := XZ0; have BZ := BZ0
        have HF9 := Lib.hid (HF.out (fun h => by have := h.1; injection this with a b; rw [a] at HLs; exact hl0 HLs.out.symm))
        have z0 : wz.cell? ⟨w.heap.size, 0, none⟩ = some (.slice none 0 0) := by rw [cell_blk XZ.out]; rfl
        have z1 : wz.cell? ⟨w.heap.size, 1, none⟩ = some (.int .i64 0) := by rw [cell_blk XZ.out]; rfl
        have z2 : wz.cell? ⟨w.heap.size, 2, none⟩ = some (.slice none 0 0) := by rw [cell_blk XZ.out]; rfl
        have fz : ∀ j, wz.frozen? ⟨w.heap.size, j, none⟩ = false := fun j => free_blk XZ.out j
        go_wp2_with fail
        have Bf := below_set3 wz w.heap.size (.slice none 0 0) (.int .i64 0) (.slice none 0 0)
        exact bodyPost_ret (v := .tuple #[.agg #[.slice none 0 0, .int .i64 0, .slice none 0 0], .int .i64 4]) (by simp [results, Try.results17, go_sem, z0, z1, z2]) rfl ⟨HF9.out _, BZ.out.trans Bf⟩
      have HS0 : Hid ((ls, false) = (([] : List UInt8), false)) := Lib.hid (by rw [List.eq_nil_of_length_eq_zero (HLs.out.trans hl0)])
      subst hl0
      have dl : decide ((0 : Int) < ((0 : Nat) : Int)) = false := rfl
      go_wp2_with fail
      refine (HCk.out wo (Below.refl _ _)).mono ?_
      rintro e w9 ⟨rfl, hb9⟩
      have B9 := Lib.hid hb9
      have XZ := Lib.hid ((hb9.block _ (lt_blk XZ0.out)).trans XZ0.out); have BZ := Lib.hid (BZ0.out.trans (hb9.mono BZ0.out.size))
      have X5 := Lib.hid ((hb9.block _ (lt_blk X5.out)).trans X5.out); have OV := Lib.hid (OV.out.below hb9); have OB := Lib.hid (OB.out.below hb9)
      clear hb9 r0 r1 d0 d1 d2 dl HCk
      rcases Classical.em (¬ chk ⟨sh, mt, acc⟩ = 0) with hck | hck
      · have qk : (chk ⟨sh, mt, acc⟩ != 0) = true := by simpa using hck
        have HF9 := Lib.hid (HF.out (fun h => hck h.2))
        clear hck
        generalize chk ⟨sh, mt, acc⟩ = ck at *
        obtain ⟨wz, e9⟩ : ∃ x, x = w9 := ⟨_, rfl⟩; subst e9
        have z0 : wz.cell? ⟨w.heap.size, 0, none⟩ = some (.slice none 0 0) := by rw [cell_blk XZ.out]; rfl
        have z1 : wz.cell? ⟨w.heap.size, 1, none⟩ = some (.int .i64 0) := by rw [cell_blk XZ.out]; rfl
        have z2 : wz.cell? ⟨w.heap.size, 2, none⟩ = some (.slice none 0 0) := by rw [cell_blk XZ.out]; rfl
        have fz : ∀ j, wz.frozen? ⟨w.heap.size, j, none⟩ = false := fun j => free_blk XZ.out j
        go_wp2_with fail
        have Bf := below_set3 wz w.heap.size (.slice none 0 0) (.int .i64 0) (.slice none 0 0)
        exact bodyPost_ret (v := .tuple #[.agg #[.slice none 0 0, .int .i64 0, .slice none 0 0], .int .i64 4]) (by simp [results, Try.results17, go_sem, z0, z1, z2]) rfl ⟨HF9.out _, BZ.out.trans Bf⟩
      have hck : chk ⟨sh, mt, acc⟩ = 0 := Classical.not_not.1 hck
      have qk : (chk ⟨sh, mt, acc⟩ != 0) = false := by rw [hck]; rfl
      have HG9 := Lib.hid (HG.out HS0.out hck)
      clear hck HF HG
      generalize chk ⟨sh, mt, acc⟩ = ck at *
      have d0 : w9.cell? ⟨g5, 0, none⟩ = some (.slice Ap n1 cp) := by rw [cell_blk X5.out]; rfl
      have d1 : w9.cell? ⟨g5, 1, none⟩ = some (.int .i64 mt) := by rw [cell_blk X5.out]; rfl
      have d2 : w9.cell? ⟨g5, 2, none⟩ = some (.slice q.1 acc.length q.2) := by rw [cell_blk X5.out]; rfl
      have z0 : w9.cell? ⟨w.heap.size, 0, none⟩ = some (.slice none 0 0) := by rw [cell_blk XZ.out]; rfl
      have z1 : w9.cell? ⟨w.heap.size, 1, none⟩ = some (.int .i64 0) := by rw [cell_blk XZ.out]; rfl
      have z2 : w9.cell? ⟨w.heap.size, 2, none⟩ = some (.slice none 0 0) := by rw [cell_blk XZ.out]; rfl
      have fz : ∀ j, w9.frozen? ⟨w.heap.size, j, none⟩ = false := fun j => free_blk XZ.out j
      go_wp2_with fail
      have Bf := below_set3 w9 w.heap.size (.slice Ap n1 cp) (.int .i64 mt) (.slice q.1 acc.length q.2)
      have Sf := spares_set3 XZ.out (.slice Ap n1 cp) (.int .i64 mt) (.slice q.1 acc.length q.2)
      have h2w : w.heap.size ≤ w2.heap.size := Bw2.out.size
      have HQ := HG9.out (Ap, cp) q _ ((OV.out.spares Sf (by decide)).le h2w) ((OB.out.spares Sf (by decide) (by decide) (by decide) (by decide)).le h2w)
      rw [cdv_eq' M1.out (rfl : acc.length = acc.length) Ap q.1 cp q.2] at HQ
      exact bodyPost_ret (v := .tuple #[.agg #[.slice Ap n1 cp, .int .i64 mt, .slice q.1 acc.length q.2], .int .i64 0]) (by simp [results, Try.results17, go_sem, z0, z1, z2]) rfl ⟨HQ, BZ.out.trans Bf⟩
    obtain ⟨k', rfl⟩ : ∃ k', k = k' + 1 := ⟨k - 1, by omega⟩
    have d : decide ((0 : Int) < ((k' + 1 : Nat) : Int)) = true := decide_eq_true (by omega)
    obtain ⟨Ar, capr, x1, -⟩ := RR.out
    have c1 : wo.cell? ⟨g, 1, none⟩ = some (.bool s4.2) := by rw [cell_blk x1]; rfl
    clear x1
    have HT1 : Hid (total = if s4.2 = true then (acc, s4) else rdL rdBd k' (rdBd s4).2 (acc ++ [(rdBd s4).1])) := Lib.hid HT.out
    generalize hb : s4.2 = bad at *
    have HB4 := Lib.hid hb
    clear hb
    cases bad
    rotate_left
    · have HE : Hid (total = (acc, s4)) := Lib.hid (by rw [HT1.out]; rfl)
      clear HT HT1 c1
      have HVc : Hid (cc = (⟨sh, mt, acc⟩, s4)) := Lib.hid (by rw [HV.out, HE.out])
      have HXc : Hid (CdSmall ⟨sh, mt, acc⟩ ∧ CdIn ⟨sh, mt, acc⟩) := Lib.hid (by
        have h := HIn.out
        rw [HVc.out] at h
        obtain ⟨h1, h2, h3, h4⟩ := h
        exact ⟨⟨Nat.le_trans h2 (by omega), Nat.le_trans h3 (by omega), fun i hi => ⟨Nat.le_trans (h4 i hi).1 (by omega), Nat.le_trans (h4 i hi).2.1 (by omega), fun j hj => Nat.le_trans ((h4 i hi).2.2 j hj) (by omega)⟩⟩, h1⟩)
      have HF : Hid (¬ (s4 = ([], false) ∧ chk ⟨sh, mt, acc⟩ = 0) → ∀ w', post (.returned (.tuple #[.agg #[.slice none 0 0, .int .i64 0, .slice none 0 0], .int .i64 4])) w') := Lib.hid (fun h w' => HP.out _ _ (by rw [if_neg (by rw [HVc.out]; exact h)]))
      have HG : Hid (s4 = ([], false) → chk ⟨sh, mt, acc⟩ = 0 → ∀ p q w', OwV w' w.heap.size p sh → OwBs w' w.heap.size q acc → post (.returned (.tuple #[cdv ⟨sh, mt, acc⟩ p q, .int .i64 0])) w') := Lib.hid (fun h1 h2 p q w' h3 h4 => HP.out _ _ (by
        rw [if_pos (by rw [HVc.out]; exact ⟨h1, h2⟩)]
        rw [HVc.out]
        exact ⟨p, q, rfl, h3, h4⟩))
      have HCk := Lib.hid (fun W (hW : Below wo.heap.size wo W) => check_any ⟨sh, mt, acc⟩ HXc.out.1 HXc.out.2 (Ap, cp) q wo.heap.size W (OV.out.at.below hW) (OB.out.at.below hW) hW.size)
      rw [cdv_eq' M1.out (rfl : acc.length = acc.length) Ap q.1 cp q.2] at HCk
      clear HV HIn HP HE HXc HVc HN HVs
      obtain ⟨Ar, capr, xr, -⟩ := RR.out
      have XR := Lib.hid xr
      have r0 : wo.cell? ⟨g, 0, none⟩ = some (.slice Ar s4.1.length capr) := by rw [cell_blk xr]; rfl
      have r1 : wo.cell? ⟨g, 1, none⟩ = some (.bool s4.2) := by rw [cell_blk xr]; rfl
      clear xr
      have d0 : wo.cell? ⟨g5, 0, none⟩ = some (.slice Ap n1 cp) := by rw [cell_blk X5.out]; rfl
      have d1 : wo.cell? ⟨g5, 1, none⟩ = some (.int .i64 mt) := by rw [cell_blk X5.out]; rfl
      have d2 : wo.cell? ⟨g5, 2, none⟩ = some (.slice q.1 acc.length q.2) := by rw [cell_blk X5.out]; rfl
      have XZ0 := Lib.hid (KK.out.blk (by decide) X2.out)
      have BZ0 := Lib.hid (Bw2.out.trans (KK.out.2.mono (Nat.le_of_lt hgw)))
      obtain ⟨ls, bd⟩ := s4
      dsimp only at *
      generalize hls : ls.length = nl at *
      have HLs := Lib.hid hls
      clear hls
      have hbd : bd = true := HB4.out
      subst hbd
      obtain ⟨wz, e9⟩ : ∃ x, x = wo := ⟨_, rfl⟩; subst e9
      have XZ := XZ0; have BZ := BZ0
      have HF9 := Lib.hid (HF.out (fun h => by have := h.1; injection this with a b; cases b))
      have z0 : wz.cell? ⟨w.heap.size, 0, none⟩ = some (.slice none 0 0) := by rw [cell_blk XZ.out]; rfl
      have z1 : wz.cell? ⟨w.heap.size, 1, none⟩ = some (.int .i64 0) := by rw [cell_blk XZ.out]; rfl
      have z2 : wz.cell? ⟨w.heap.size, 2, none⟩ = some (.slice none 0 0) := by rw [cell_blk XZ.out]; rfl
      have fz : ∀ j, wz.frozen? ⟨w.heap.size, j, none⟩ = false := fun j => free_blk XZ.out j
      go_wp2_with fail
      have Bf := below_set3 wz w.heap.size (.slice none 0 0) (.int .i64 0) (.slice none 0 0)
      exact bodyPost_ret (v := .tuple #[.agg #[.slice none 0 0, .int .i64 0, .slice none 0 0], .int .i64 4]) (by simp [results, Try.results17, go_sem, z0, z1, z2]) rfl ⟨HF9.out _, BZ.out.trans Bf⟩
    have HE0 : Hid (total = rdL rdBd k' (rdBd s4).2 (acc ++ [(rdBd s4).1])) := Lib.hid (by rw [HT1.out]; rfl)
    clear HT HT1
    generalize hc3 : rdL rdNd (rdN 2 (rdN 1 (rdVs s4).2).2).1 (rdN 2 (rdN 1 (rdVs s4).2).2).2 [] = tot3 at *
    have HBd : Hid (rdBd s4 = (⟨(rdVs s4).1, (rdN 1 (rdVs s4).2).1, tot3.1⟩, tot3.2)) := Lib.hid (by rw [← hc3]; rfl)
    have HC3 := Lib.hid hc3
    clear hc3
    have HVs2 := Lib.hid (HVs.out wo s4 g RR.out)
    generalize rdVs s4 = vs at *
    obtain ⟨lo, s5⟩ := vs
    dsimp only at *
    have N3 := Lib.hid (fun W h => HN.out 1 (by omega) (by omega) W s5 g h); have b3 := rdN_lt 1 s5
    generalize rdN 1 s5 = q3 at *
    obtain ⟨st, s6⟩ := q3
    dsimp only at *
    have N4 := Lib.hid (fun W h => HN.out 2 (by omega) (by omega) W s6 g h); have b4 := rdN_lt 2 s6
    generalize rdN 2 s6 = q4 at *
    obtain ⟨nn, s7⟩ := q4
    dsimp only at *
    have e3 := wi64 st (by omega) (by omega); have e4 := wi64 nn (by omega) (by omega)
    have hnn : nn ≤ 65535 := by omega
    clear b3 b4
    go_wp2_with fail
    refine HVs2.out.mono ?_
    rintro e v1 ⟨p1, rfl, ho, hr, hk1⟩
    obtain ⟨A1, p1c⟩ := p1
    have O1 := Lib.hid ho; have R1 := Lib.hid hr; have K1 := Lib.hid hk1
    clear ho hr hk1 HVs2 c1 d
    dsimp only
    generalize hl1 : lo.length = l1 at *
    have L1 := Lib.hid hl1
    clear hl1
    go_wp2_with fail
    refine (N3.out v1 R1.out).mono ?_
    rintro e v2 ⟨rfl, hr, hk1⟩
    have R2 := Lib.hid hr; have K2 := Lib.hid (K1.out.trans hk1); have O2 := Lib.hid (O1.out.rk hk1)
    clear hr hk1 N3
    go_upto_region 7 with (fail)
    obtain ⟨b0_, hb_⟩ := boxes1 v2 (.cells #[.slice A1 l1 p1c, .int .i64 st, .slice none 0 0] 57)
    generalize v2.alloc (.cells #[.slice A1 l1 p1c, .int .i64 st, .slice none 0 0] 57) = v3 at *
    have T7b : Hid (∀ W, Below v3.heap.size v3 W → W.heap[v2.heap.size]? = some (.cells #[.slice A1 l1 p1c, .int .i64 st, .slice none 0 0] 57 (0, 0))) := Lib.hid (fun W hW => (hW.block _ (lt_blk b0_)).trans b0_)
    have T7 : Hid (∀ W, Below v3.heap.size v3 W → W.cell? ⟨v2.heap.size, 0, none⟩ = some (.slice A1 l1 p1c) ∧ W.cell? ⟨v2.heap.size, 1, none⟩ = some (.int .i64 st) ∧ W.cell? ⟨v2.heap.size, 2, none⟩ = some (.slice none 0 0)) := Lib.hid (fun W hW => by have e := (hW.block _ (lt_blk b0_)).trans b0_; exact ⟨by rw [cell_blk e]; rfl, by rw [cell_blk e]; rfl, by rw [cell_blk e]; rfl⟩)
    have B7 := Lib.hid hb_
    clear hb_ b0_
    have hv2 : wo.heap.size ≤ v2.heap.size := K2.out.1.1
    have hgo : g < wo.heap.size := RR.out.lt
    have R3 := Lib.hid (R2.out.below B7.out); have K3 := Lib.hid (K2.out.later (Nat.le_of_lt hgo) (B7.out.mono hv2)); have O3 := Lib.hid (OwV.below O2.out B7.out)
    have X7 := Lib.hid (T7b.out v3 (Below.refl _ _))
    have hg7 : wo.heap.size ≤ v2.heap.size := hv2
    generalize v2.heap.size = g7 at *
    clear T7 T7b B7 hv2
    go_wp2_with fail
    refine (N4.out v3 R3.out).mono ?_
    rintro e v4 ⟨rfl, hr, hk1⟩
    have F0 : Hid (RdF wo g g7 (A1, p1c) (none, 0) lo st [] s7 v4) := Lib.hid ⟨by have := hk1.blk (by decide) X7.out; rw [L1.out]; exact this, O3.out.rk hk1, OwNs.nil _ _, hr, K3.out.trans hk1⟩
    clear hr hk1 N4 e3 R1 R2 R3 K1 K2 K3 O1 O2 O3 X7
    go_wp2_with fail
    clear e4
    go_loopw [8] (fun jv wi => ∃ (j : Nat) (s8 : Rst) (acc2 : List Nd) (r : Slc), jv = .int .i64 j ∧ j ≤ 65535 ∧ acc2.length ≤ 65535 - j ∧ tot3 = rdL rdNd j s8 acc2 ∧ RdF wo g g7 (A1, p1c) r lo st acc2 s8 wi) (fun jv _ => (intOf jv).toNat)
    case atStart => exact ⟨nn, s7, [], (none, 0), by first | rfl | go_num, by omega, by simp, HC3.out.symm, F0.out⟩
    case round =>
      obtain ⟨j, s8, acc2, r, rfl, hj, hac2, ht3, hfd⟩ := hrel
      have HT3 := Lib.hid ht3; have HFd := Lib.hid hfd
      clear ht3 hfd F0
      by_cases h0 : j = 0
      · subst h0
        have d : decide ((0 : Int) < ((0 : Nat) : Int)) = false := rfl
        have HE3 : Hid (tot3 = (acc2, s8)) := Lib.hid HT3.out
        clear HT3
        have HBe : Hid (rdBd s4 = (⟨lo, st, acc2⟩, s8)) := Lib.hid (by rw [HBd.out, HE3.out])
        have HE1 : Hid (total = rdL rdBd k' s8 (acc ++ [⟨lo, st, acc2⟩])) := Lib.hid (by rw [HE0.out, HBe.out])
        clear HE3 HBe
        obtain ⟨x7, hv, hn, hr, hk⟩ := HFd.out
        have XX7 : Hid (wr.heap[g7]? = some (.cells #[.slice A1 l1 p1c, .int .i64 st, .slice r.1 acc2.length r.2] 57 (0, 0))) := Lib.hid (by have := x7; rw [L1.out] at this; exact this)
        have hle : w2.heap.size ≤ wo.heap.size := KK.out.1.1
        have OL := Lib.hid (hv.le hle); have ON := Lib.hid (hn.le hle); have R8 := Lib.hid hr; have K8 := Lib.hid (KK.out.trans hk)
        have XX5 := Lib.hid (hk.blk (by decide) X5.out); have OV8 := Lib.hid (OV.out.rk hk); have OB8 := Lib.hid (OB.out.rk hk)
        clear x7 hv hn hr hk
        obtain ⟨xs, hxs, hrow, hall⟩ := OB8.out
        have HXS := Lib.hid hxs; have HAL := Lib.hid hall
        have hxl : Hid (xs.length = acc.length) := Lib.hid (by rw [← hxs]; simp)
        have Hrow : Hid (wr.ownsRow w2.heap.size 57 3 (.slice q.1 acc.length q.2) acc.length (xs.flatMap fun x => bdc x.1 x.2.1 x.2.2)) := Lib.hid (by unfold sv at hrow; rw [hxl.out] at hrow; exact hrow)
        clear hxs hall hrow
        have d2 : wr.cell? ⟨g5, 2, none⟩ = some (.slice q.1 acc.length q.2) := by rw [cell_blk XX5.out]; rfl
        have y0 : wr.cell? ⟨g7, 0, none⟩ = some (.slice A1 l1 p1c) := by rw [cell_blk XX7.out]; rfl
        have y1 : wr.cell? ⟨g7, 1, none⟩ = some (.int .i64 st) := by rw [cell_blk XX7.out]; rfl
        have y2 : wr.cell? ⟨g7, 2, none⟩ = some (.slice r.1 acc2.length r.2) := by rw [cell_blk XX7.out]; rfl
        have hB8 : w2.heap.size ≤ wr.heap.size := K8.out.1.1
        go_upto_region 5 with (at_builtin; refine wpList_append_oneS ESB [.slice A1 l1 p1c, .int .i64 st, .slice r.1 acc2.length r.2] _ rfl rfl (.tmp 57) (.tmp 59) rfl w2.heap.size (by intro u hu; simp at hu; rcases hu with rfl | rfl | rfl <;> rfl) 1 rfl (.slice q.1 acc.length q.2) acc.length (xs.flatMap fun x => bdc x.1 x.2.1 x.2.2) rfl Hrow.out rfl (by omega) (by omega) wr hB8 (Below.refl _ _) ?_; intro v' w' h2 h3 h4 h5; clear h5; have Sp := Lib.hid (Spares.grown h4 (own_row Hrow.out)); clear h4; have hsn := OwBs.snoc (p := q) (w := wr) (n := ⟨lo, st, acc2⟩) (q := (A1, p1c)) (r := r) HXS.out (fun x hx => ⟨(HAL.out x hx).1.spares Sp.out (by decide), (HAL.out x hx).2.spares Sp.out (by decide) (by decide)⟩) (OL.out.spares Sp.out (by decide)) (ON.out.spares Sp.out (by decide) (by decide)) (by rw [hxl.out, show bdc ⟨lo, st, acc2⟩ (A1, p1c) r = [.slice A1 l1 p1c, .int .i64 st, .slice r.1 acc2.length r.2] from (by unfold bdc; rw [L1.out])]; exact h2); obtain ⟨p9, hv9, h9⟩ := hsn; subst hv9; unfold sv; have O9 := Lib.hid h9; have B9 := Lib.hid h3; have X9 := Lib.hid (Sp.out.2 _ _ _ _ (by decide) XX5.out); have c9 := cell_blk X9.out 2; have f9 := free_blk X9.out 2; clear h2 h3 h9)
        clear d2 y0 y1 y2
        have hg5w : w2.heap.size ≤ g5 := hg5
        obtain ⟨d1, d2⟩ := set1 X9.out 2 (.slice p9.1 (acc.length + 1) p9.2)
        have Bd := Lib.hid (B9.out.trans ((below_set1 w' g5 2 (.slice p9.1 (acc.length + 1) p9.2)).mono hg5w))
        have SpN := Lib.hid (Spares.own_blk d2 X9.out)
        have D1 := Lib.hid d1
        clear d1 d2 c9 f9
        generalize w'.setCell ⟨g5, 2, none⟩ (.slice p9.1 (acc.length + 1) p9.2) = wd at *
        go_wp2_with fail
        go_roundw
        case rel => exact ⟨k', s8, acc ++ [⟨lo, st, acc2⟩], p9, by go_num, by omega, by rw [List.length_append, List.length_singleton]; omega, HE1.out, by rw [D1.out, List.length_append]; rfl, (OV8.out.spares Sp.out (by decide)).spares SpN.out (by decide), O9.out.spares SpN.out (by decide) (by decide) (by decide) (by decide), R8.out.keep Bd.out hg2, K8.out.later (Nat.le_of_lt hg2) Bd.out⟩
        case measure => simp [intOf]
      obtain ⟨j', rfl⟩ : ∃ j', j = j' + 1 := ⟨j - 1, by omega⟩
      have d : decide ((0 : Int) < ((j' + 1 : Nat) : Int)) = true := decide_eq_true (by omega)
      have c1 : wr.cell? ⟨g, 1, none⟩ = some (.bool s8.2) := by obtain ⟨Ar, capr, x1, -⟩ := HFd.out.2.2.2.1; rw [cell_blk x1]; rfl
      have HT1 : Hid (tot3 = if s8.2 = true then (acc2, s8) else rdL rdNd j' (rdNd s8).2 (acc2 ++ [(rdNd s8).1])) := Lib.hid HT3.out
      generalize hb : s8.2 = bad at *
      have HB8 := Lib.hid hb
      clear hb
      cases bad
      rotate_left
      · have HE3 : Hid (tot3 = (acc2, s8)) := Lib.hid (by rw [HT1.out]; rfl)
        clear HT1 HT3
        have HBe : Hid (rdBd s4 = (⟨lo, st, acc2⟩, s8)) := Lib.hid (by rw [HBd.out, HE3.out])
        have HE1 : Hid (total = rdL rdBd k' s8 (acc ++ [⟨lo, st, acc2⟩])) := Lib.hid (by rw [HE0.out, HBe.out])
        clear HE3 HBe
        obtain ⟨x7, hv, hn, hr, hk⟩ := HFd.out
        have XX7 : Hid (wr.heap[g7]? = some (.cells #[.slice A1 l1 p1c, .int .i64 st, .slice r.1 acc2.length r.2] 57 (0, 0))) := Lib.hid (by have := x7; rw [L1.out] at this; exact this)
        have hle : w2.heap.size ≤ wo.heap.size := KK.out.1.1
        have OL := Lib.hid (hv.le hle); have ON := Lib.hid (hn.le hle); have R8 := Lib.hid hr; have K8 := Lib.hid (KK.out.trans hk)
        have XX5 := Lib.hid (hk.blk (by decide) X5.out); have OV8 := Lib.hid (OV.out.rk hk); have OB8 := Lib.hid (OB.out.rk hk)
        clear x7 hv hn hr hk
        obtain ⟨xs, hxs, hrow, hall⟩ := OB8.out
        have HXS := Lib.hid hxs; have HAL := Lib.hid hall
        have hxl : Hid (xs.length = acc.length) := Lib.hid (by rw [← hxs]; simp)
        have Hrow : Hid (wr.ownsRow w2.heap.size 57 3 (.slice q.1 acc.length q.2) acc.length (xs.flatMap fun x => bdc x.1 x.2.1 x.2.2)) := Lib.hid (by unfold sv at hrow; rw [hxl.out] at hrow; exact hrow)
        clear hxs hall hrow
        have d2 : wr.cell? ⟨g5, 2, none⟩ = some (.slice q.1 acc.length q.2) := by rw [cell_blk XX5.out]; rfl
        have y0 : wr.cell? ⟨g7, 0, none⟩ = some (.slice A1 l1 p1c) := by rw [cell_blk XX7.out]; rfl
        have y1 : wr.cell? ⟨g7, 1, none⟩ = some (.int .i64 st) := by rw [cell_blk XX7.out]; rfl
        have y2 : wr.cell? ⟨g7, 2, none⟩ = some (.slice r.1 acc2.length r.2) := by rw [cell_blk XX7.out]; rfl
        have hB8 : w2.heap.size ≤ wr.heap.size := K8.out.1.1
        go_upto_region 5 with (at_builtin; refine wpList_append_oneS ESB [.slice A1 l1 p1c, .int .i64 st, .slice r.1 acc2.length r.2] _ rfl rfl (.tmp 57) (.tmp 59) rfl w2.heap.size (by intro u hu; simp at hu; rcases hu with rfl | rfl | rfl <;> rfl) 1 rfl (.slice q.1 acc.length q.2) acc.length (xs.flatMap fun x => bdc x.1 x.2.1 x.2.2) rfl Hrow.out rfl (by omega) (by omega) wr hB8 (Below.refl _ _) ?_; intro v' w' h2 h3 h4 h5; clear h5; have Sp := Lib.hid (Spares.grown h4 (own_row Hrow.out)); clear h4; have hsn := OwBs.snoc (p := q) (w := wr) (n := ⟨lo, st, acc2⟩) (q := (A1, p1c)) (r := r) HXS.out (fun x hx => ⟨(HAL.out x hx).1.spares Sp.out (by decide), (HAL.out x hx).2.spares Sp.out (by decide) (by decide)⟩) (OL.out.spares Sp.out (by decide)) (ON.out.spares Sp.out (by decide) (by decide)) (by rw [hxl.out, show bdc ⟨lo, st, acc2⟩ (A1, p1c) r = [.slice A1 l1 p1c, .int .i64 st, .slice r.1 acc2.length r.2] from (by unfold bdc; rw [L1.out])]; exact h2); obtain ⟨p9, hv9, h9⟩ := hsn; subst hv9; unfold sv; have O9 := Lib.hid h9; have B9 := Lib.hid h3; have X9 := Lib.hid (Sp.out.2 _ _ _ _ (by decide) XX5.out); have c9 := cell_blk X9.out 2; have f9 := free_blk X9.out 2; clear h2 h3 h9)
        clear d2 y0 y1 y2
        have hg5w : w2.heap.size ≤ g5 := hg5
        obtain ⟨d1, d2⟩ := set1 X9.out 2 (.slice p9.1 (acc.length + 1) p9.2)
        have Bd := Lib.hid (B9.out.trans ((below_set1 w' g5 2 (.slice p9.1 (acc.length + 1) p9.2)).mono hg5w))
        have SpN := Lib.hid (Spares.own_blk d2 X9.out)
        have D1 := Lib.hid d1
        clear d1 d2 c9 f9
        generalize w'.setCell ⟨g5, 2, none⟩ (.slice p9.1 (acc.length + 1) p9.2) = wd at *
        go_wp2_with fail
        go_roundw
        case rel => exact ⟨k', s8, acc ++ [⟨lo, st, acc2⟩], p9, by go_num, by omega, by rw [List.length_append, List.length_singleton]; omega, HE1.out, by rw [D1.out, List.length_append]; rfl, (OV8.out.spares Sp.out (by decide)).spares SpN.out (by decide), O9.out.spares SpN.out (by decide) (by decide) (by decide) (by decide), R8.out.keep Bd.out hg2, K8.out.later (Nat.le_of_lt hg2) Bd.out⟩
        case measure => simp [intOf]
      have HE3 : Hid (tot3 = rdL rdNd j' (rdNd s8).2 (acc2 ++ [(rdNd s8).1])) := Lib.hid (by rw [HT1.out]; rfl)
      clear HT1 HT3
      have HEf := Lib.hid (fun W (h : RdF wo g g7 (A1, p1c) r lo st acc2 s8 W) (hwo : wo.heap.size ≤ W.heap.size) => node_eff h hwo)
      generalize rdNd s8 = rx at *
      obtain ⟨x, s9⟩ := rx
      dsimp only at *
      have HIV : Hid (∀ s' W', RdF wo g g7 (A1, p1c) r lo st acc2 s' W' → W'.heap[g7]? = some (.cells #[.slice A1 l1 p1c, .int .i64 st, .slice r.1 acc2.length r.2] 57 (0, 0))) := Lib.hid (fun s' W' h => by have := h.1; rw [L1.out] at this; exact this)
      go_upto_region 10 with (fail)
      clear c1 d
      apply wp_region_relC (fun W => W.heap[g7]? = some (.cells #[.slice A1 l1 p1c, .int .i64 st, .slice r.1 acc2.length r.2] 57 (0, 0))) (RdF wo g g7 (A1, p1c) r lo st acc2 s8) 5 [(Sum.inl _ : TC), (Sum.inl _ : TC), (Sum.inl _ : TC), .inr (fun _ => True, RdF1 wo g g7 (A1, p1c) r lo st acc2 x s9), .inr (fun _ => True, RdF2 wo g g7 (A1, p1c) r lo st acc2 x s9)] [false, false, false, true, true] (by kernel_rfl) (by kernel_rfl) (by kernel_rfl) rfl rfl (RdF.keepsW _ _ _ _ _ _ _ _ _) (HIV.out _ _ (HFd.out.below (Below.refl _ _).drew)) (HFd.out.below (Below.refl _ _).drew)
      simp only [List.take_succ_cons, List.take_zero, List.drop_succ_cons, List.drop_zero]
      iterate 3 (apply rel_isC; (intro W hW hf; have u2 := cell_blk hW 2; go_simp; first | exact ⟨⟨hW, Below.refl _ _⟩, rfl⟩ | exact ⟨Below.refl _ _, rfl⟩ | rfl); simp only [Act.put, List.setIfInBounds_toArray, List.set_cons_succ, List.set_cons_zero])
      apply rel_effC
      · intro W hW hS
        exact rel_callE (by first | rfl | (go_simp; done) | (go_simp; simp)) (by go_simp <;> first | rfl | exact ⟨rfl, rfl⟩ | exact ⟨rfl, rfl, rfl⟩) (HEf.out W hS hS.2.2.2.2.1.1 _ (fun s' W' h => HIV.out s' W' h))
      · exact fun v => RdF1.keepsW _ _ _ _ _ _ _ _ _ _ _
      intro v5
      simp only [Act.put, List.setIfInBounds_toArray, List.set_cons_succ, List.set_cons_zero]
      apply rel_effC
      · intro W hW hS
        obtain ⟨h1, q9, rfl, h3⟩ := hS
        refine ⟨rfl, ?_⟩
        unfold ndv
        go_simp
        have hb := below_alloc W (.cells #[.slice q9.1 x.code.length q9.2, .int .i64 x.kind, .int .i64 x.arg, .int .i64 x.next, .int .i64 x.alt] 60)
        exact ⟨(hb.block _ (lt_blk hW)).trans hW, h1.below hb, q9, W.heap.size, rfl, heap_alloc_new _ _, h3.below hb⟩
      · exact fun v => RdF2.keepsW _ _ _ _ _ _ _ _ _ _ _
      intro v6
      simp only [Act.put, List.setIfInBounds_toArray, List.set_cons_succ, List.set_cons_zero]
      refine rel_endC ?_
      intro W hW hS hf
      try simp only [Act.put, List.setIfInBounds_toArray, List.set_cons_succ, List.set_cons_zero]
      obtain ⟨⟨x7, hv, ⟨ns, hns, hrow, hall⟩, hr, hk⟩, q9, gb, rfl, hgb, hoi⟩ := hS
      have X7 := Lib.hid hW
      have OL := Lib.hid hv; have HNS := Lib.hid hns; have HAL := Lib.hid hall; have R8 := Lib.hid hr; have K8 := Lib.hid hk; have OI := Lib.hid hoi
      have hnl : Hid (ns.length = acc2.length) := Lib.hid (by rw [← hns]; simp)
      have Hrow : Hid (W.ownsRow wo.heap.size 60 5 (.slice r.1 acc2.length r.2) acc2.length (ns.flatMap fun x => ndc x.1 x.2)) := Lib.hid (by unfold sv at hrow; rw [hnl.out] at hrow; exact hrow)
      have hrd : Rd W W.heap.size (some ⟨gb, 0, none⟩) (ndc x q9) := fun j u hu => ⟨gb, 0, rfl, lt_blk hgb, by rw [cell_blk hgb, Nat.zero_add]; simpa using hu⟩
      have hBw : wo.heap.size ≤ W.heap.size := K8.out.1.1
      clear x7 hv hns hall hr hk hrow hgb hoi hf hW HEf
      refine wpList_append_srcS ESN rfl (.tmp 50) (.tmp 53) rfl wo.heap.size (.slice r.1 acc2.length r.2) acc2.length (ns.flatMap fun x => ndc x.1 x.2) rfl Hrow.out W.heap.size (some ⟨gb, 0, none⟩) (ndc x q9) 1 1 rfl rfl hrd (by intro h; cases h) (ndc_one x q9) (by omega) (by omega) W hBw (Below.refl _ _) ?_
      intro v' w' h2 h3 h4 h5
      have Sp := Lib.hid (Spares.grown h4 (own_row Hrow.out))
      obtain ⟨p9, hv9, h9⟩ := OwNs.snoc (p := r) (w := W) (n := x) (q := q9) HNS.out (fun y hy => (HAL.out y hy).spares Sp.out (by decide)) (OI.out.spares Sp.out (by decide)) (by rw [hnl.out]; exact h2)
      subst hv9
      unfold sv
      have O9 := Lib.hid h9; have B9 := Lib.hid h3; have X9 := Lib.hid (Sp.out.2 _ _ _ _ (by decide) X7.out)
      have c9 : w'.cell? ⟨g7, 2, none⟩ = some (.slice r.1 acc2.length r.2) := by rw [cell_blk X9.out]; rfl
      have f9 := free_blk X9.out 2
      clear h2 h3 h4 h5 h9 hrd
      go_wp2_with fail
      obtain ⟨d1, d2⟩ := set1 X9.out 2 (.slice p9.1 (acc2.length + 1) p9.2)
      have Bd := Lib.hid (B9.out.trans ((below_set1 w' g7 2 (.slice p9.1 (acc2.length + 1) p9.2)).mono hg7))
      have SpN := Lib.hid (Spares.own_blk d2 X9.out)
      have D1 := Lib.hid d1
      clear d1 d2 c9 f9
      generalize w'.setCell ⟨g7, 2, none⟩ (.slice p9.1 (acc2.length + 1) p9.2) = wd at *
      go_roundw
      case rel => exact ⟨j', s9, acc2 ++ [x], p9, by go_num, by omega, by rw [List.length_append, List.length_singleton]; omega, HE3.out, by rw [D1.out, L1.out, List.length_append]; rfl, (OL.out.spares Sp.out (by decide)).spares SpN.out (by decide), O9.out.spares SpN.out (by decide) (by decide), R8.out.keep Bd.out hgo, K8.out.later (Nat.le_of_lt hgo) Bd.out⟩
      case measure => simp [intOf]
end Go.Proofs.Ytbmpjphemjponaa
