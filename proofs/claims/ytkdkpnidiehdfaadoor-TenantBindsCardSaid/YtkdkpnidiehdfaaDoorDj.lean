import Derived.Test.YtkdkpnidiehdfaaDoorDe
import Derived.Test.YtkdkpnidiehdfaaDoorDh
import Derived.Laws.Tables
import Derived.Deep.RegionHeld3
set_option linter.unusedSimpArgs false
set_option linter.unusedVariables false
namespace Go.Proofs.YtkdkpnidiehdfaaDoor
open Go.RowKit



set_option maxRecDepth 100000 in
set_option maxHeartbeats 4000000 in
theorem sum_dig (h : HS) (hl : h.wait.length = 64) (hn : h.n ≤ 1000000000) (g : Nat) (w : World) (hg : w.heap[g]? = some (.cells h.cells 35 (0, 0))) (hk : KMem w) :
    Calls Tryd.prog 20 #[.pointer (some ⟨g, 0, none⟩)] w fun e w' => e = .returned (dg h.finish) ∧ Below w.heap.size w w' := by
  have Hg := Lib.hid hg
  have HK := Lib.hid hk
  have Hl := Lib.hid hl
  have hgs := lt_blk hg
  clear hg hk hl
  go_enter Tryd.func20, Tryd.ntmps20
  go_upto_region 1 with (fail)
  generalize hz : #[Value.int IntKind.u8 0, _, _, _, _, _, _, _, _, _, _, _, _, _, _, _, _, _, _, _, _, _, _, _, _, _, _, _, _, _, _, _] = zs
  have hzs : zs.size = 32 := by rw [← hz]; rfl
  have Hzs := Lib.hid hzs
  clear hz hzs
  generalize hw0 : w.alloc (.cells zs 25) = w0
  have Hres : Hid (w0.heap[w.heap.size]? = some (.cells zs 25 (0, 0))) := Lib.hid (by rw [← hw0]; exact heap_alloc_new _ _)
  have HB0 : Hid (Below w.heap.size w w0) := Lib.hid (by rw [← hw0]; exact (Below.refl _ _).alloc (Nat.le_refl _) _)
  have Hs0 : Hid (w0.heap.size = w.heap.size + 1) := Lib.hid (by rw [← hw0]; simp)
  generalize hr : w.heap.size = r
  rw [hr] at Hres HB0 Hs0 hgs
  have Hr := Lib.hid hr
  clear hr hw0
  go_upto_region 2 with (fail)
  generalize hw1 : w0.alloc (.cells _ 25) = w1
  have Hd1 : Hid (w1.heap[w0.heap.size]? = some (.cells (bcells (dlist St.init 0)).toArray 25 (0, 0))) := Lib.hid (by rw [← hw1]; exact heap_alloc_new _ _)
  have HB1 : Hid (Below w0.heap.size w0 w1) := Lib.hid (by rw [← hw1]; exact (Below.refl _ _).alloc (Nat.le_refl _) _)
  have Hs1 : Hid (w1.heap.size = w0.heap.size + 1) := Lib.hid (by rw [← hw1]; simp)
  generalize hdb : w0.heap.size = db
  rw [hdb] at Hd1 HB1 Hs1 Hs0
  have Hdb := Lib.hid hdb
  clear hdb hw1
  have Hg1 : Hid (w1.heap[g]? = some (.cells h.cells 35 (0, 0))) := Lib.hid (by
    have := Hs0.out
    rw [HB1.out.block g (by omega), HB0.out.block g (by omega)]; exact Hg.out)
  have hm1 : w1.cell? ⟨g, 73, none⟩ = some (.bool true) := by rw [cell_blk Hg1.out, hcells_made h Hl.out]
  have r0 : w1.cell? ⟨g, 0, none⟩ = some (.int .u32 h.st.a.toNat) := by rw [cell_blk Hg1.out, hcells_st h _ (by omega)]; rfl
  have r1 : w1.cell? ⟨g, 1, none⟩ = some (.int .u32 h.st.b.toNat) := by rw [cell_blk Hg1.out, hcells_st h _ (by omega)]; rfl
  have r2 : w1.cell? ⟨g, 2, none⟩ = some (.int .u32 h.st.c.toNat) := by rw [cell_blk Hg1.out, hcells_st h _ (by omega)]; rfl
  have r3 : w1.cell? ⟨g, 3, none⟩ = some (.int .u32 h.st.d.toNat) := by rw [cell_blk Hg1.out, hcells_st h _ (by omega)]; rfl
  have r4 : w1.cell? ⟨g, 4, none⟩ = some (.int .u32 h.st.e.toNat) := by rw [cell_blk Hg1.out, hcells_st h _ (by omega)]; rfl
  have r5 : w1.cell? ⟨g, 5, none⟩ = some (.int .u32 h.st.f.toNat) := by rw [cell_blk Hg1.out, hcells_st h _ (by omega)]; rfl
  have r6 : w1.cell? ⟨g, 6, none⟩ = some (.int .u32 h.st.g.toNat) := by rw [cell_blk Hg1.out, hcells_st h _ (by omega)]; rfl
  have r7 : w1.cell? ⟨g, 7, none⟩ = some (.int .u32 h.st.h.toNat) := by rw [cell_blk Hg1.out, hcells_st h _ (by omega)]; rfl
  go_upto_region 5 with (go_at_call 58; refine (none_some _ _ _ hm1).mono ?_; rintro e w' ⟨rfl, rfl⟩)
  clear hm1 r0 r1 r2 r3 r4 r5 r6 r7
  generalize hw2 : w1.alloc (.cells _ 32) = w2
  have Hsb : Hid (w2.heap[w1.heap.size]? = some (.cells h.st.cells 32 (0, 0))) := Lib.hid (by rw [← hw2]; exact heap_alloc_new _ _)
  have HB2 : Hid (Below w1.heap.size w1 w2) := Lib.hid (by rw [← hw2]; exact (Below.refl _ _).alloc (Nat.le_refl _) _)
  have Hs2 : Hid (w2.heap.size = w1.heap.size + 1) := Lib.hid (by rw [← hw2]; simp)
  generalize hsb : w1.heap.size = sb
  rw [hsb] at Hsb HB2 Hs2 Hs1
  have Hsbe := Lib.hid hsb
  clear hsb hw2
  have hgs2 : g < w2.heap.size := by have := Hs2.out; have := Hs1.out; have := Hs0.out; omega
  have Hg2 : Hid (w2.heap[g]? = some (.cells h.cells 35 (0, 0))) := Lib.hid (by
    have := Hs1.out; have := Hs0.out
    rw [HB2.out.block g (by omega)]; exact Hg1.out)
  have Hc72 : Hid (w2.cell? ⟨g, 72, none⟩ = some (.int .i64 h.n)) := Lib.hid (by rw [cell_blk Hg2.out]; exact hcells_n _ Hl.out)
  have HBw : Hid (Bs w2 w2.heap.size (some ⟨g, 8, none⟩) (h.wait.take (h.n % 64))) := Lib.hid (fun j hj => ⟨g, 8, rfl, hgs2, by
    have hj' : j < h.n % 64 := by simp at hj; omega
    rw [cell_blk Hg2.out, hcells_wait _ Hl.out _ (by omega)]
    simp [List.getD_eq_getElem?_getD, List.getElem?_take, hj']⟩)
  have Hlw : Hid ((h.wait.take (h.n % 64)).length = h.n % 64) := Lib.hid (by simp [Hl.out]; omega)
  have Hmess : Hid (h.finish = dbytes (blk h.st (padz (h.wait.take (h.n % 64) ++ [128]) ++ eight (bitsOf h.n)) ((padz (h.wait.take (h.n % 64) ++ [128])).length / 64 + 1))) := Lib.hid rfl
  generalize h.wait.take (h.n % 64) = wt at HBw Hlw Hmess
  generalize hfe : h.finish = fin at Hmess
  have Hfe := Lib.hid hfe
  clear hfe
  obtain ⟨st, wait, n⟩ := h
  simp only at Hlw hn Hc72 Hmess
  have e1 : (n : Int).tmod 64 = (n : Int) % 64 := Int.tmod_eq_emod_of_nonneg (by omega)
  have e2 : ((n : Int) % 64).toNat = n % 64 := by omega
  have g1 : 0 ≤ (n : Int) % 64 := by omega
  have g2 : (n : Int) % 64 < 64 := by omega
  have g3 : (n : Int) % 64 ≤ 64 := by omega
  go_cut [5] (fun v wc => wc.ownsRow w2.heap.size 5 1 v (wt ++ [128]).length (bcells (wt ++ [128])) ∧ Below w2.heap.size w2 wc)
  case first =>
    have Hbl : Hid ((bcells wt).length = n % 64) := Lib.hid (by rw [bcells_length]; exact Hlw.out)
    have Hq1 : Hid (0 + n % 64 ≤ 1000000000000) := Lib.hid (by omega)
    have Hq2 : Hid (0 + n % 64 + 1 ≤ 1000000000000) := Lib.hid (by omega)
    have Hone : Hid (∀ u ∈ [Value.int .u8 128], u.oneCell' = true) := Lib.hid (by intro u hu; simp at hu; subst hu; rfl)
    have Hgs2 := Lib.hid hgs2
    clear hgs2
    go_region_held3 (fun w' => w'.cell? ⟨g, 72, none⟩ = some (.int .i64 n) ∧ Below w2.heap.size w2 w')
      (first | exact ⟨Hc72.out, (Below.refl _ _).drew⟩ | exact keepS Hc72.out Hgs2.out (by assumption) | exact keepS Hc72.out Hgs2.out ((Below.refl _ _).drew.alloc (Nat.le_refl _) _) | exact keepS Hc72.out Hgs2.out (((Below.refl _ _).alloc (Nat.le_refl _) _).drew) | exact keepS Hc72.out Hgs2.out (hba.alloc hba.size _))
      ((first
        | (refine step_append_src E5 _ rfl (.const (.slice none 0 0)) (.tmp 24) rfl w2.heap.size (.slice none 0 0) 0 [] rfl (World.ownsRow_nil _ _ _ _) w2.heap.size (some ⟨g, 8, none⟩) (bcells wt) (n % 64) 64 rfl Hbl.out (Rd.below HBw.out.rd (by first | exact (Below.refl _ _).drew | exact ((Below.refl _ _).alloc (Nat.le_refl _) _).drew)) (fun h => by cases h) (bcells_one _) Hq1.out (by omega) w2 (Nat.le_refl _) (by first | exact (Below.refl _ _).drew | exact ((Below.refl _ _).alloc (Nat.le_refl _) _).drew) ?_
           intro v1 wa h2a hba h4a h5a; have h4c : World.grownBy _ wa none := h4a; try have hrb : Rd wa (w2.heap.size + 1) (some ⟨w2.heap.size, 0, none⟩) [.int .u8 128] := Rd.grown (Rd.drew (rd_new w2 _ 5)) h4c (by simp))
        | (refine step_append_src E5 _ rfl (.tmp 25) (.tmp 26) rfl w2.heap.size v1 (0 + n % 64) ([] ++ bcells wt) rfl (h2a.alloc _) _ _ [.int .u8 128] 1 1 rfl rfl (rd_new _ _ _) (fun h => by cases h) Hone.out Hq2.out (by omega) w2 (Nat.le_refl _) (hba.alloc hba.size _) ?_
           intro v2 wb h2b hbb h4b h5b)
        | (refine step_append_src E5 _ rfl (.tmp 25) (.tmp 26) rfl w2.heap.size v1 (0 + n % 64) ([] ++ bcells wt) rfl h2a (w2.heap.size + 1) (some ⟨w2.heap.size, 0, none⟩) [.int .u8 128] 1 1 rfl rfl hrb (fun h => by cases h) Hone.out Hq2.out (by omega) w2 (Nat.le_refl _) hba ?_
           intro v2 wb h2b hbb h4b h5b)))
    all_goals
      go_wp2_with fail
      go_meet
      case rel =>
        exact ⟨by
          have h := h2b
          rw [Nat.zero_add, List.nil_append] at h
          rw [bcells_app, List.length_append, Hlw.out]; exact h, by assumption⟩
  case rest =>
    obtain ⟨hm, hbm⟩ := hcut
    have HM := Lib.hid hm
    have H3 := Lib.hid hbm
    have HLm : Hid ((wt ++ [128]).length ≤ 65) := Lib.hid (by have := Hlw.out; simp; omega)
    clear hm hbm e1 e2 g1 g2 g3
    generalize wt ++ [128] = m0 at HM HLm Hmess
    go_upto_region 6 with (fail)
    go_loopw [5] (fun v wr => ∃ n : Nat, m0.length ≤ n ∧ n ≤ m0.length + (120 - m0.length % 64) % 64 ∧ wr.ownsRow w2.heap.size 5 1 v n (bcells (m0 ++ List.replicate (n - m0.length) 0)) ∧ Below w2.heap.size w2 wr)
      (fun v _ => m0.length + (120 - m0.length % 64) % 64 - lenV v)
    case atStart => exact ⟨m0.length, Nat.le_refl _, by omega, by simpa using HM.out, H3.out⟩
    case round =>
      obtain ⟨n', hn1, hn2, hown, hb⟩ := hrel
      obtain ⟨A1, c1, rfl, _, _, _⟩ := own_rd hown
      have Hown := Lib.hid hown
      have Hb := Lib.hid hb
      clear hown hb
      by_cases hlt : n' < m0.length + (120 - m0.length % 64) % 64
      · have hd : (((n' : Int)) % 64 != 56) = true := by rw [bne_iff_ne]; omega
        have Hn1 := Lib.hid hn1
        have Hlt := Lib.hid hlt
        have hn' : n' ≤ 200 := by have := HLm.out; omega
        clear hn1 hn2 hlt
        go_wp2_with (at_builtin; refine wpList_append_one0 E5 rfl (.tmp 32) (.tmp 33) rfl w2.heap.size _ rfl _ n' _ rfl Hown.out rfl (by omega) (by omega) w2 (Nat.le_refl _) Hb.out ?_; intro v' w' h2 h3 h4 h5; clear h4 h5; have H2 := Lib.hid h2; have H3 := Lib.hid h3; clear h2 h3)
        obtain ⟨A2, c2, rfl, _, _, _⟩ := own_rd H2.out
        go_roundw
        case rel => exact ⟨n' + 1, by have := Hn1.out; omega, by have := Hlt.out; omega, by
          have h := H2.out
          rw [show n' + 1 - m0.length = (n' - m0.length) + 1 by have := Hn1.out; omega, List.replicate_succ', ← List.append_assoc, bcells_app]; exact h, H3.out⟩
        case measure => have := Hlt.out; simp only [lenV]; omega
      · obtain rfl : n' = m0.length + (120 - m0.length % 64) % 64 := by omega
        have Hpz : Hid (wr.ownsRow w2.heap.size 5 1 (.slice A1 (padz m0).length c1) (padz m0).length (bcells (padz m0))) := Lib.hid (by
          have h := Hown.out
          rw [Nat.add_sub_cancel_left] at h
          have e : (padz m0).length = m0.length + (120 - m0.length % 64) % 64 := by simp [padz]
          rw [e]; exact h)
        rw [show m0.length + (120 - m0.length % 64) % 64 = (padz m0).length by simp [padz]]
        have Hpl : Hid ((padz m0).length ≤ 200) := Lib.hid (by have := HLm.out; have := padz_bound m0; omega)
        have hpm := padz_length m0
        have Hpm := Lib.hid hpm
        generalize padz m0 = pz at Hpz Hpl Hpm Hmess hpm
        clear Hown hn1 hn2 hlt HM HLm H3
        have hd : (((pz.length : Int)) % 64 != 56) = false := by rw [bne_eq_false_iff_eq]; omega
        clear hpm
        go_upto_region 9 with (fail)
        obtain ⟨wo, hwo⟩ : ∃ wo : World, wo = wr := ⟨_, rfl⟩
        rw [← hwo]
        rw [← hwo] at Hb Hpz
        clear hwo
        go_loopw [5, 6] (fun v i wr => ∃ j : Nat, j ≤ 8 ∧ i = .int .i64 (56 - 8 * (j : Int)) ∧ wr.ownsRow w2.heap.size 5 1 v (pz.length + j) (bcells (pz ++ eightL (bitsOf n) j)) ∧ Below w2.heap.size w2 wr) (fun _ i _ => (intOf i + 8).toNat)
        case atStart => exact ⟨0, by omega, rfl, by simpa [eightL] using Hpz.out, Hb.out⟩
        case round =>
          obtain ⟨j, hj, rfl, hown, hb⟩ := hrel
          have Hown := Lib.hid hown
          have Hbj := Lib.hid hb
          clear hown hb
          by_cases hlt : j < 8
          · have hn72 : wr.cell? ⟨g, 72, none⟩ = some (.int .i64 n) := (Hbj.out.cell (p := ⟨g, 72, none⟩) hgs2).trans Hc72.out
            have e1 : ((56 : Int) - 8 * j).toNat = 56 - 8 * j := by omega
            have hj1 : (0 : Int) ≤ 56 - 8 * j := by omega
            have hj2 : (56 : Int) - 8 * j ≤ 64 := by omega
            have hdj : decide ((0 : Int) ≤ 56 - 8 * j) = true := by simp; omega
            have hbn : ((bitsOf n : Nat) : Int) = (n : Int) * 8 := by unfold bitsOf; omega
            have hby := u8_div (bitsOf n) (56 - 8 * j)
            rw [hbn] at hby
            clear hbn
            have hpj : pz.length + j ≤ 300 := by have := Hpl.out; omega
            go_wp2_with (at_builtin; refine wpList_append_one0 E5 rfl (.tmp 39) (.tmp 49) rfl w2.heap.size _ rfl _ (pz.length + j) _ rfl Hown.out rfl (by omega) (by omega) w2 (Nat.le_refl _) Hbj.out ?_; intro v' w' h2 h3 h4 h5; clear h4 h5; have H2 := Lib.hid h2; have H3 := Lib.hid h3; clear h2 h3)
            go_roundw
            case rel => exact ⟨j + 1, by omega, by go_num, by
              have h := H2.out
              rw [eightL_succ, ← List.append_assoc, bcells_app]; exact h, H3.out⟩
            case measure => simp [intOf]; omega
          · obtain rfl : j = 8 := by omega
            rw [show ((56 : Int) - 8 * ((8 : Nat) : Int)) = -8 from rfl]
            have hown8 : wr.ownsRow w2.heap.size 5 1 _ (pz.length + 8) (bcells (pz ++ eight (bitsOf n))) := Hown.out
            have Hpk : Hid (pz.length + 8 = 64 * (pz.length / 64 + 1)) := Lib.hid (by have := Hpm.out; omega)
            have Hpl8 : Hid ((pz ++ eight (bitsOf n)).length = 64 * (pz.length / 64 + 1)) := Lib.hid (by rw [← Hpk.out]; simp [eight, eightL_length])
            rw [Hpk.out] at hown8
            generalize pz.length / 64 + 1 = K at Hpk Hpl8 Hmess hown8
            have HKb : Hid (64 * K ≤ 300) := Lib.hid (by have := Hpk.out; have := Hpl.out; omega)
            have HK1 : Hid (1 ≤ K) := Lib.hid (by have := Hpk.out; omega)
            generalize pz ++ eight (bitsOf n) = pb at Hpl8 Hmess hown8
            obtain ⟨A4, c4, rfl, hrd4, hnil4, hc4⟩ := own_rd hown8
            obtain ⟨b4, off4, rfl, hb4, _⟩ := hrd4.bs 0 (by rw [Hpl8.out]; have := HK1.out; omega)
            have Hbs4 := Lib.hid hrd4.bs
            have Hc4 := Lib.hid hc4
            have Hown8 := Lib.hid hown8
            clear hown8 hrd4 hnil4 hc4 Hown Hpz Hb
            go_wp2_with fail
            have Hb4lo : Hid (w2.heap.size ≤ b4) := Lib.hid ((Hown8.out.lt b4 rfl).1)
            have hsb2 : sb < w2.heap.size := lt_blk Hsb.out
            have Hsbw : Hid (wr.heap[sb]? = some (.cells st.cells 32 (0, 0))) := Lib.hid ((Hbj.out.block sb hsb2).trans Hsb.out)
            obtain ⟨wq, hwq⟩ : ∃ wq : World, wq = wr := ⟨_, rfl⟩
            rw [← hwq]
            rw [← hwq] at Hbj Hbs4 Hsbw hb4 Hown8
            clear hwq
            have Hb4 := Lib.hid hb4
            have Hsb2 := Lib.hid hsb2
            have HKq : Hid (KMem wq) := Lib.hid (by
              have h0 := HK.out
              have e0 := Hr.out
              have e1 := Hs0.out
              have e2 := Hs1.out
              have e3 := Hs2.out
              intro t ht
              have hc := h0 t ht
              have hp := h0.pos
              rw [Hbj.out.cell (p := ⟨0, t, none⟩) (by show (0 : Nat) < _; omega), HB2.out.cell (p := ⟨0, t, none⟩) (by show (0 : Nat) < _; omega), HB1.out.cell (p := ⟨0, t, none⟩) (by show (0 : Nat) < _; omega), HB0.out.cell (p := ⟨0, t, none⟩) (by show (0 : Nat) < _; omega)]
              exact hc)
            clear Hown8 hb4 hsb2
            go_loopw [5] (fun v wr => ∃ (k cap : Nat) (ad : Addr), k ≤ K ∧ v = .slice (some ad) (64 * (K - k)) cap ∧ 64 * (K - k) ≤ cap ∧ (k < K → ad = ⟨b4, off4 + 64 * k, none⟩) ∧ wr.heap[sb]? = some (.cells (blk st pb k).cells 32 (0, 0)) ∧ wq.grownBy wr (some sb)) (fun v _ => lenV v)
            case atStart => exact ⟨0, c4, _, by omega, rfl, by have := Hc4.out; omega, fun _ => rfl, Hsbw.out, World.grownBy.refl _ _⟩
            case round =>
              obtain ⟨k, cap, ad, hk, rfl, hcap, had, hh, hgr⟩ := hrel
              have Hh := Lib.hid hh
              have Hgr := Lib.hid hgr
              clear hh hgr
              by_cases hlt : k < K
              · obtain rfl := had hlt
                clear had
                have Hblk : Hid (compress (blk st pb k) (fun j => pb.getD (64 * k + j) 0) = blk st pb (k + 1)) := Lib.hid rfl
                generalize blk st pb k = sk at Hh Hblk
                have Hcell : Hid (∀ j, j < 64 → wr.cell? ⟨b4, off4 + 64 * k + j, none⟩ = some (.int .u8 (pb.getD (64 * k + j) 0).toNat)) := Lib.hid (fun j hj => by
                  obtain ⟨b', off', e2, hb', hc⟩ := Hbs4.out (64 * k + j) (by rw [Hpl8.out]; omega)
                  injection e2 with e2; injection e2 with e3 e4; subst e3 e4
                  rw [Nat.add_assoc]
                  exact (World.cell?_of_block (Hgr.out.block b4 hb' (by intro e; injection e with e; have := Hb4lo.out; have := Hsb2.out; omega))).trans hc)
                have Hb4r : Hid (b4 < wr.heap.size) := Lib.hid (Nat.lt_of_lt_of_le Hb4.out Hgr.out.size)
                have HKr : Hid (KMem wr) := Lib.hid (KMem.grown HKq.out Hgr.out (by intro g' e; injection e with e; have h1 := Hs0.out; have h2 := Hs1.out; have h3 := Hsbe.out; omega))
                have hL1 : 64 ≤ 64 * (K - k) := by omega
                have HL2 : Hid (64 * (K - k) - 64 = 64 * (K - (k + 1))) := Lib.hid (by omega)
                have hL3 : 64 * (K - k) ≤ 300 := by have := HKb.out; omega
                have Hlt := Lib.hid hlt
                have Hcap := Lib.hid hcap
                clear hlt hk
                generalize 64 * (K - k) = L at hL1 HL2 hL3 hcap Hcap
                have hcap64 : 64 ≤ cap := by omega
                have x1 : (0 : Int) < (L : Int) := by omega
                have x2 : (64 : Int) ≤ (L : Int) := by omega
                have x3 : (64 : Int) ≤ (cap : Int) := by omega
                have x4 : (L : Int) ≤ (cap : Int) := by omega
                by_cases hce : cap = 64
                · obtain rfl := hce
                  have HLe : Hid (L = 64) := Lib.hid (by omega)
                  go_wp2_with (go_at_call 59; refine (block_dig sk (fun j => pb.getD (64 * k + j) 0) sb _ 32 b4 (off4 + 64 * k) 64 64 _ HKr.out Hh.out (fun i hi => St.cells_at sk i hi) Hcell.out Hb4r.out (Nat.le_refl _)).mono ?_; rintro e w5 ⟨rfl, hw5, hgw5⟩; have Hw5 := Lib.hid hw5; have Hgw5 := Lib.hid hgw5; clear hw5 hgw5)
                  go_roundw
                  case rel => exact ⟨k + 1, 0, ⟨b4, off4 + 64 * k, none⟩, by have := Hlt.out; omega, by rw [← HL2.out, HLe.out], by have := HL2.out; have := HLe.out; omega, fun h => by have := HL2.out; have := HLe.out; omega, by rw [Hw5.out, wrW_cells]; exact congrArg (fun x => some (Obj.cells (St.cells x) 32 (0, 0))) Hblk.out, grown_trans Hgr.out Hgw5.out⟩
                  case measure => simp [lenV]; omega
                · have hce' : ¬ (cap = 64) := hce
                  go_wp2_with (go_at_call 59; refine (block_dig sk (fun j => pb.getD (64 * k + j) 0) sb _ 32 b4 (off4 + 64 * k) 64 cap _ HKr.out Hh.out (fun i hi => St.cells_at sk i hi) Hcell.out Hb4r.out (Nat.le_refl _)).mono ?_; rintro e w5 ⟨rfl, hw5, hgw5⟩; have Hw5 := Lib.hid hw5; have Hgw5 := Lib.hid hgw5; clear hw5 hgw5)
                  go_roundw
                  case rel => exact ⟨k + 1, cap - 64, ⟨b4, off4 + 64 * k + 64, none⟩, by have := Hlt.out; omega, by rw [← HL2.out], by have := HL2.out; have := Hcap.out; omega, fun _ => by rw [Nat.add_assoc, show 64 * k + 64 = 64 * (k + 1) by omega], by rw [Hw5.out, wrW_cells]; exact congrArg (fun x => some (Obj.cells (St.cells x) 32 (0, 0))) Hblk.out, grown_trans Hgr.out Hgw5.out⟩
                  case measure => simp [lenV]; omega
              · obtain rfl : k = K := by omega
                have Hfin : Hid (fin = dbytes (blk st pb k)) := Hmess
                generalize blk st pb k = sk at Hh Hfin
                rw [Nat.sub_self, Nat.mul_zero]
                clear had hcap hk hlt
                go_upto_region 15 with (fail)
                go_wp2_with (refine wpList_load_row (o := ⟨some 59, .load 32 (.tmp 4), _, _, _, _⟩) rfl _ _ rfl sb rfl _ sk.cells (0, 0) _ Hh.out Tryd.underlying32 rfl (by rw [cells_size]; kernel_rfl) ?_)
                have Hdw : Hid (wr.heap[db]? = some (.cells (bcells (dlist sk 0)).toArray 25 (0, 0))) := Lib.hid (by
                  have e1 := Hs1.out
                  have e2 := Hs2.out
                  have e3 := Hsb2.out
                  have e4 := Hbj.out.size
                  rw [Hgr.out.block db (by omega) (by intro e; injection e with e; omega), Hbj.out.block db (by omega), HB2.out.block db (by omega)]
                  exact Hd1.out)
                have Hres' : Hid (wr.heap[r]? = some (.cells zs 25 (0, 0))) := Lib.hid (by
                  have e0 := Hs0.out
                  have e1 := Hs1.out
                  have e2 := Hs2.out
                  have e4 := Hbj.out.size
                  rw [Hgr.out.block r (by omega) (by intro e; injection e with e; omega), Hbj.out.block r (by omega), HB2.out.block r (by omega), HB1.out.block r (by omega)]
                  exact Hres.out)
                have Hbel : Hid (Below r w wr) := Lib.hid (by
                  have e0 := Hs0.out
                  have e1 := Hs1.out
                  have e2 := Hs2.out
                  have e4 := Hbj.out.size
                  exact HB0.out.trans ((HB1.out.mono (by omega)).trans ((HB2.out.mono (by omega)).trans ((Hbj.out.mono (by omega)).trans ((Below.refl r wq).grown Hgr.out (by omega) (by intro k e; injection e with e; omega))))))
                have Hrdb : Hid (r < db) := Lib.hid (by have := Hs0.out; omega)
                obtain ⟨wz, hwz⟩ : ∃ wz : World, wz = wr := ⟨_, rfl⟩
                rw [← hwz] at Hdw Hres' Hbel
                rw [← hwz]
                clear hwz Hh Hgr
                go_loopw [60] (fun v wr => ∃ i : Nat, i ≤ 8 ∧ v = .int .i64 i ∧ wr.heap[db]? = some (.cells (bcells (dlist sk (4 * i))).toArray 25 (0, 0)) ∧ wz.grownBy wr (some db)) (fun v _ => 8 - (intOf v).toNat)
                case atStart => exact ⟨0, by omega, rfl, Hdw.out, World.grownBy.refl _ _⟩
                case round =>
                  obtain ⟨i, hi, rfl, ho, hgr⟩ := hrel
                  have Ho := Lib.hid ho
                  have Hgr := Lib.hid hgr
                  clear ho hgr
                  by_cases hl8 : i < 8
                  · have hd8 : decide ((i : Int) < 8) = true := by simp; omega
                    have hix := fun W => run_index_cell (P := Tryd.prog) Tryd.underlying32 Tryd.underlying30 (by kernel_rfl) sk.cells i hl8 _ (St.cells_at sk i hl8) W
                    have hdl : (dlist sk (4 * i)).length = 32 := dlist_length sk _ (by omega)
                    obtain ⟨y0, y1, y2, y3⟩ := dby_four sk i
                    have Hset := Lib.hid (dlist_four sk i hl8)
                    generalize dlist sk (4 * i) = dl at Ho hdl Hset
                    have B1 := set_blk Ho.out (4 * i) (.int .u8 (dby sk (4 * i)).toNat)
                    rw [bcells_set] at B1
                    have B2 := set_blk B1 (4 * i + 1) (.int .u8 (dby sk (4 * i + 1)).toNat)
                    rw [bcells_set] at B2
                    have B3 := set_blk B2 (4 * i + 2) (.int .u8 (dby sk (4 * i + 2)).toNat)
                    rw [bcells_set] at B3
                    have B4 := set_blk B3 (4 * i + 3) (.int .u8 (dby sk (4 * i + 3)).toNat)
                    rw [bcells_set, Hset.out] at B4
                    have k0 : ∃ v, wr.cell? ⟨db, 4 * i, none⟩ = some v := ⟨_, by rw [cell_blk Ho.out, Array.getElem?_eq_getElem (by simp [bcells, hdl]; omega)]⟩
                    have k1 := (⟨_, by rw [cell_blk B1, Array.getElem?_eq_getElem (by simp [bcells, hdl]; omega)]⟩ : ∃ v, (wr.setCell ⟨db, 4 * i, none⟩ (.int .u8 (dby sk (4 * i)).toNat)).cell? ⟨db, 4 * i + 1, none⟩ = some v)
                    have k2 := (⟨_, by rw [cell_blk B2, Array.getElem?_eq_getElem (by simp [bcells, hdl]; omega)]⟩ : ∃ v, ((wr.setCell ⟨db, 4 * i, none⟩ (.int .u8 (dby sk (4 * i)).toNat)).setCell ⟨db, 4 * i + 1, none⟩ (.int .u8 (dby sk (4 * i + 1)).toNat)).cell? ⟨db, 4 * i + 2, none⟩ = some v)
                    have k3 := (⟨_, by rw [cell_blk B3, Array.getElem?_eq_getElem (by simp [bcells, hdl]; omega)]⟩ : ∃ v, (((wr.setCell ⟨db, 4 * i, none⟩ (.int .u8 (dby sk (4 * i)).toNat)).setCell ⟨db, 4 * i + 1, none⟩ (.int .u8 (dby sk (4 * i + 1)).toNat)).setCell ⟨db, 4 * i + 2, none⟩ (.int .u8 (dby sk (4 * i + 2)).toNat)).cell? ⟨db, 4 * i + 3, none⟩ = some v)
                    obtain ⟨z0, k0⟩ := k0
                    obtain ⟨z1, k1⟩ := k1
                    obtain ⟨z2, k2⟩ := k2
                    obtain ⟨z3, k3⟩ := k3
                    have f0 := free_blk Ho.out (4 * i)
                    have f1 := free_blk B1 (4 * i + 1)
                    have f2 := free_blk B2 (4 * i + 2)
                    have f3 := free_blk B3 (4 * i + 3)
                    have HB4 := Lib.hid B4
                    clear B1 B2 B3 B4 hdl Hset
                    generalize dby sk (4 * i) = d0 at *
                    generalize dby sk (4 * i + 1) = d1 at *
                    generalize dby sk (4 * i + 2) = d2 at *
                    generalize dby sk (4 * i + 3) = d3 at *
                    generalize sk.at i = x at *
                    go_wp2
                    go_roundw
                    case rel => exact ⟨i + 1, by omega, by go_num, HB4.out, grown_setCell (grown_setCell (grown_setCell (grown_setCell Hgr.out rfl _) rfl _) rfl _) rfl _⟩
                    case measure => simp [intOf]; omega
                  · obtain rfl : i = 8 := by omega
                    have Hfo : Hid (wr.heap[db]? = some (.cells (bcells fin).toArray 25 (0, 0))) := Lib.hid (by rw [Hfin.out, ← dlist_last]; exact Ho.out)
                    have Hcr : Hid (wr.heap[r]? = some (.cells zs 25 (0, 0))) := Lib.hid (by
                      rw [Hgr.out.block r (lt_blk Hres'.out) (by intro e; injection e with e; have := Hrdb.out; omega)]; exact Hres'.out)
                    have Hsl : Hid ((bcells fin).toArray.size = 32) := Lib.hid (by rw [Hfin.out]; simp [bcells, dbytes_length])
                    have Hone : Hid ((bcells fin).toArray.all (·.oneCell') = true) := Lib.hid (by
                      rw [Array.all_eq_true_iff_forall_mem]; intro x hx; exact bcells_one _ x (by simpa using hx))
                    have Hfb : Hid (Below r w wr) := Lib.hid (Hbel.out.grown Hgr.out (by have := lt_blk Hres'.out; omega) (by intro k e; injection e with e; have := Hrdb.out; omega))
                    have Hff : Hid ((HS.mk st wait n).finish = fin) := Lib.hid Hfe.out
                    have Hdg : Hid (dg fin = .agg (bcells fin).toArray) := Lib.hid rfl
                    generalize (bcells fin).toArray = sl at Hfo Hsl Hone Hdg
                    clear Ho Hgr
                    go_wp2_with (first
                      | (refine wpList_load_row (o := ⟨some 91, .load 25 (.tmp 3), _, _, _, _⟩) rfl _ _ rfl db rfl _ sl (0, 0) _ Hfo.out Tryd.underlying25 rfl (by rw [Hsl.out]; kernel_rfl) ?_)
                      | (refine wpList_store_row (o := ⟨none, .store 25 (.tmp 2) (.tmp 91), _, _, _, _⟩) rfl _ _ _ rfl r sl rfl rfl _ zs Hcr.out (by rw [Hsl.out]; kernel_rfl) (by rw [Hsl.out, Hzs.out]) Hone.out ?_))
                    refine bodyPost_ret (results_cell_row rfl _ _ r 25 sl (0, 0) _ rfl (setRow_heap _ _ _ sl _ (0, 0) Hcr.out) Tryd.underlying25 rfl (by rw [Hsl.out]; kernel_rfl)) rfl ⟨by rw [Hff.out, Hdg.out], ?_⟩
                    rw [Hr.out]
                    exact below_setRow Hfb.out (Nat.le_refl _) _
end Go.Proofs.YtkdkpnidiehdfaaDoor
