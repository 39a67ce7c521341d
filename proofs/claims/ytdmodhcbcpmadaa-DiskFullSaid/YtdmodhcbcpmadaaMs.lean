/- disk.Remove, Cut, Rename (printed by gen_disk.py). -/
import Derived.Test.YtdmodhcbcpmadaaMm
import Derived.Test.YtdmodhcbcpmadaaMq
import Derived.Test.YtdmodhcbcpmadaaMr
set_option linter.unusedSimpArgs false
set_option linter.unusedVariables false
namespace Go.Proofs.Ytdmodhcbcpmadaa
open Go.RowKit

set_option maxRecDepth 100000 in
set_option maxHeartbeats 2000000 in
theorem remove_at {w : World} {p m : Nat} {d : Dk} (h : DiskAt w p m d) (hw : d.writes < 1000000000000) (k : Nm) (hk : k.length ≤ 9223372036854775807)  :
    Calls Try.prog 33 #[.pointer (some ⟨p, 0, none⟩), .string (str k)] w (DiskP w p m (d.remove k)) := by
  have H := Lib.hid h
  clear h
  go_enter Try.func33, Try.ntmps33
  go_wp2_with fail
  obtain ⟨b0_, b1_, hb_⟩ := boxes2 w (.cells #[.pointer (some ⟨p, 0, none⟩)] 22) (.cells #[.string (str k)] 9)
  generalize (w.alloc (.cells #[.pointer (some ⟨p, 0, none⟩)] 22)).alloc (.cells #[.string (str k)] 9) = w0 at *
  have T0b : Hid (∀ W, Below w0.heap.size w0 W → W.heap[w.heap.size]? = some (.cells #[.pointer (some ⟨p, 0, none⟩)] 22 (0, 0))) := Lib.hid (fun W hW => (hW.block _ (lt_blk b0_)).trans b0_)
  have T0 : Hid (∀ W, Below w0.heap.size w0 W → W.cell? ⟨w.heap.size, 0, none⟩ = some (.pointer (some ⟨p, 0, none⟩))) := Lib.hid (fun W hW => by have e := (hW.block _ (lt_blk b0_)).trans b0_; exact by rw [cell_blk e]; rfl)
  have T1b : Hid (∀ W, Below w0.heap.size w0 W → W.heap[w.heap.size + 1]? = some (.cells #[.string (str k)] 9 (0, 0))) := Lib.hid (fun W hW => (hW.block _ (lt_blk b1_)).trans b1_)
  have T1 : Hid (∀ W, Below w0.heap.size w0 W → W.cell? ⟨w.heap.size + 1, 0, none⟩ = some (.string (str k))) := Lib.hid (fun W hW => by have e := (hW.block _ (lt_blk b1_)).trans b1_; exact by rw [cell_blk e]; rfl)
  have HB := Lib.hid hb_
  clear hb_ b0_ b1_
  have H0 := Lib.hid (H.out.below HB.out)
  refine (none_at H0.out).mono ?_
  rintro e w1 ⟨rfl, rfl⟩
  obtain ⟨A, cap, hv, hl1, hl2, hbs, hA0, hcap⟩ := look_file H0.out k hk
  have HV := Lib.hid hv; have HL := Lib.hid hl1; have HBS := Lib.hid hbs; have HA0 := Lib.hid hA0; have HCP := Lib.hid hcap
  clear hv hl1 hl2 hbs hA0 hcap
  have x1 := T0.out w1 (Below.refl _ _)
  have x2 := T1.out w1 (Below.refl _ _)
  have x3 := cell_blk H0.out.own 1
  simp only [List.getElem?_toArray, List.getElem?_cons_succ, List.getElem?_cons_zero] at x3
  have y1 := fun o => T0.out (w1.alloc o) (below_alloc w1 o)
  have y2 := fun o => T1.out (w1.alloc o) (below_alloc w1 o)
  have y3 : ∀ o, (w1.alloc o).cell? ⟨p, 1, none⟩ = some (.map (some m)) := fun o => by have := cell_blk (H0.out.below (below_alloc w1 o)).own 1; exact this
  have l1 := HL.out w1.drew rfl
  have l2 := fun o => HL.out (w1.alloc o).drew (Below.heap_alloc _ _ _ H0.out.ltm)
  go_wp2_with fail
  go_region
  obtain ⟨hfb, hbl⟩ := boxes1 w1 (.cells #[.slice A (d.file k).b.length cap, .int .i64 (d.file k).safe, .bool (d.file k).kept] 77)
  have hfb2 : (w1.alloc (.cells #[.slice A (d.file k).b.length cap, .int .i64 (d.file k).safe, .bool (d.file k).kept] 77)).drew.heap[w1.heap.size]? = _ := hfb
  have hbl2 := hbl.drew
  generalize (w1.alloc (.cells #[.slice A (d.file k).b.length cap, .int .i64 (d.file k).safe, .bool (d.file k).kept] 77)).drew = w2 at *
  have HF := Lib.hid hfb2; have HB2 := Lib.hid hbl2
  clear x1 x2 x3 y1 y2 y3 l1 l2 hfb hbl hfb2 hbl2
  have H2 := Lib.hid (H0.out.below HB2.out)
  have HBW := Lib.hid (HB.out.trans (HB2.out.mono HB.out.size))
  have x1 := T0.out w2 HB2.out
  have x2 := T1.out w2 HB2.out
  cases hh : d.has k with
  | false =>
    have HE : Hid (d.remove k = (d, 6)) := Lib.hid (by unfold Dk.remove; rw [if_pos hh])
    go_wp2_with fail
    go_ret
    exact ⟨by rw [HE.out]; rfl, by rw [HE.out]; exact H2.out, .of_below HBW.out⟩
  | true =>
    have HE : Hid (d.remove k = d.wr (ndel d.fs k)) := Lib.hid (by unfold Dk.remove; rw [if_neg (by rw [hh]; decide)])
    clear hh
    have HO : Hid (d.remove k).1.Ok := Lib.hid (H.out.ok.remove k)
    by_cases h0 : d.left = 0
    · have HW := Lib.hid (fun f => write_off H2.out h0 f)
      have HE2 : Hid (d.remove k = (d, 13)) := Lib.hid (by rw [HE.out]; unfold Dk.wr; rw [if_pos h0])
      clear h0
      go_wp2_with fail
      refine (HW.out _).mono ?_
      rintro e w3 ⟨rfl, rfl⟩
      go_wp2_with fail
      go_ret
      exact ⟨by rw [HE2.out]; rfl, by rw [HE2.out]; exact H2.out, .of_below HBW.out⟩
    · have HE2 : Hid (d.remove k = (d.tick (ndel d.fs k), 0)) := Lib.hid (by rw [HE.out]; unfold Dk.wr; rw [if_neg h0])
      have HW := Lib.hid (write_on H2.out h0 hw 67 (enters_of Try.func67 (by kernel_rfl) rfl) #[.pointer (some ⟨w.heap.size, 0, none⟩), .pointer (some ⟨w.heap.size + 1, 0, none⟩)] (fun w' => DiskAt w' p m (d.remove k).1 ∧ Dw w w' p m) (fun w3 h3 h4 => by
        have hgf : w1.heap.size < w2.heap.size := lt_blk HF.out
        have hgp : w1.heap.size ≠ p := by have := H0.out.lt; omega
        have hf := HV.out
        obtain ⟨_, _, e1, _, _, hsafe, hlen, _⟩ := hf
        have hbs := H2.out.bs (h4.dw m) (Nat.le_refl _) ((HBS.out.below HB2.out).more HB2.out.size)
        refine (remove1_at (raw_of H2.out h3 h4) k hk w1.heap.size w.heap.size (w.heap.size + 1) ((World.cell?_of_block (h4.block _ (cell_lt x1) (by show w.heap.size ≠ p; have := H.out.lt; omega))).trans x1) ((World.cell?_of_block (h4.block _ (cell_lt x2) (by show w.heap.size + 1 ≠ p; have := H.out.lt; omega))).trans x2)).mono ?_
        rintro e w4 ⟨rfl, h5, h6⟩
        have h7 := HO.out
        rw [HE2.out] at h7 ⊢
        exact ⟨rfl, h5.disk h7, ((Dw.of_below HBW.out).trans (h4.dw m)).new h6 (by have := HB.out.size; omega)⟩))
      clear h0
      go_wp2_with fail
      refine HW.out.mono ?_
      rintro e w3 ⟨rfl, h5, h6⟩
      have H5 := Lib.hid h5; have H6 := Lib.hid h6
      clear h5 h6
      go_wp2_with fail
      go_ret
      exact ⟨by rw [HE2.out]; rfl, H5.out, H6.out⟩
set_option maxRecDepth 100000 in
set_option maxHeartbeats 2000000 in
theorem cut_at {w : World} {p m : Nat} {d : Dk} (h : DiskAt w p m d) (hw : d.writes < 1000000000000) (k : Nm) (hk : k.length ≤ 9223372036854775807) (c : Int) (hc : c ≤ 9223372036854775807) :
    Calls Try.prog 21 #[.pointer (some ⟨p, 0, none⟩), .string (str k), .int .i64 c] w (DiskP w p m (d.cut k c)) := by
  have H := Lib.hid h
  clear h
  go_enter Try.func21, Try.ntmps21
  go_wp2_with fail
  obtain ⟨b0_, b1_, b2_, hb_⟩ := boxes3 w (.cells #[.pointer (some ⟨p, 0, none⟩)] 22) (.cells #[.string (str k)] 9) (.cells #[.int .i64 c] 3)
  generalize ((w.alloc (.cells #[.pointer (some ⟨p, 0, none⟩)] 22)).alloc (.cells #[.string (str k)] 9)).alloc (.cells #[.int .i64 c] 3) = w0 at *
  have T0b : Hid (∀ W, Below w0.heap.size w0 W → W.heap[w.heap.size]? = some (.cells #[.pointer (some ⟨p, 0, none⟩)] 22 (0, 0))) := Lib.hid (fun W hW => (hW.block _ (lt_blk b0_)).trans b0_)
  have T0 : Hid (∀ W, Below w0.heap.size w0 W → W.cell? ⟨w.heap.size, 0, none⟩ = some (.pointer (some ⟨p, 0, none⟩))) := Lib.hid (fun W hW => by have e := (hW.block _ (lt_blk b0_)).trans b0_; exact by rw [cell_blk e]; rfl)
  have T1b : Hid (∀ W, Below w0.heap.size w0 W → W.heap[w.heap.size + 1]? = some (.cells #[.string (str k)] 9 (0, 0))) := Lib.hid (fun W hW => (hW.block _ (lt_blk b1_)).trans b1_)
  have T1 : Hid (∀ W, Below w0.heap.size w0 W → W.cell? ⟨w.heap.size + 1, 0, none⟩ = some (.string (str k))) := Lib.hid (fun W hW => by have e := (hW.block _ (lt_blk b1_)).trans b1_; exact by rw [cell_blk e]; rfl)
  have T2b : Hid (∀ W, Below w0.heap.size w0 W → W.heap[w.heap.size + 1 + 1]? = some (.cells #[.int .i64 c] 3 (0, 0))) := Lib.hid (fun W hW => (hW.block _ (lt_blk b2_)).trans b2_)
  have T2 : Hid (∀ W, Below w0.heap.size w0 W → W.cell? ⟨w.heap.size + 1 + 1, 0, none⟩ = some (.int .i64 c)) := Lib.hid (fun W hW => by have e := (hW.block _ (lt_blk b2_)).trans b2_; exact by rw [cell_blk e]; rfl)
  have HB := Lib.hid hb_
  clear hb_ b0_ b1_ b2_
  have H0 := Lib.hid (H.out.below HB.out)
  refine (none_at H0.out).mono ?_
  rintro e w1 ⟨rfl, rfl⟩
  obtain ⟨A, cap, hv, hl1, hl2, hbs, hA0, hcap⟩ := look_file H0.out k hk
  have HV := Lib.hid hv; have HL := Lib.hid hl1; have HBS := Lib.hid hbs; have HA0 := Lib.hid hA0; have HCP := Lib.hid hcap
  clear hv hl1 hl2 hbs hA0 hcap
  have x1 := T0.out w1 (Below.refl _ _)
  have x2 := T1.out w1 (Below.refl _ _)
  have x3 := cell_blk H0.out.own 1
  simp only [List.getElem?_toArray, List.getElem?_cons_succ, List.getElem?_cons_zero] at x3
  have y1 := fun o => T0.out (w1.alloc o) (below_alloc w1 o)
  have y2 := fun o => T1.out (w1.alloc o) (below_alloc w1 o)
  have y3 : ∀ o, (w1.alloc o).cell? ⟨p, 1, none⟩ = some (.map (some m)) := fun o => by have := cell_blk (H0.out.below (below_alloc w1 o)).own 1; exact this
  have l1 := HL.out w1.drew rfl
  have l2 := fun o => HL.out (w1.alloc o).drew (Below.heap_alloc _ _ _ H0.out.ltm)
  go_wp2_with fail
  go_region
  obtain ⟨hfb, hbl⟩ := boxes1 w1 (.cells #[.slice A (d.file k).b.length cap, .int .i64 (d.file k).safe, .bool (d.file k).kept] 77)
  have hfb2 : (w1.alloc (.cells #[.slice A (d.file k).b.length cap, .int .i64 (d.file k).safe, .bool (d.file k).kept] 77)).drew.heap[w1.heap.size]? = _ := hfb
  have hbl2 := hbl.drew
  generalize (w1.alloc (.cells #[.slice A (d.file k).b.length cap, .int .i64 (d.file k).safe, .bool (d.file k).kept] 77)).drew = w2 at *
  have HF := Lib.hid hfb2; have HB2 := Lib.hid hbl2
  clear x1 x2 x3 y1 y2 y3 l1 l2 hfb hbl hfb2 hbl2
  have H2 := Lib.hid (H0.out.below HB2.out)
  have HBW := Lib.hid (HB.out.trans (HB2.out.mono HB.out.size))
  have x1 := T0.out w2 HB2.out
  have x2 := T1.out w2 HB2.out
  have x3 := T2.out w2 HB2.out
  have hfc := fun i => cell_blk HF.out i
  have f0 := hfc 0
  have f1 := hfc 1
  simp only [List.getElem?_toArray, List.getElem?_cons_succ, List.getElem?_cons_zero] at f0 f1
  clear hfc
  have HFL := Lib.hid (H.out.ok.file k)
  cases hh : d.has k with
  | false =>
    have HE : Hid (d.cut k c = (d, 6)) := Lib.hid (by unfold Dk.cut; rw [if_pos hh])
    go_wp2_with fail
    go_ret
    exact ⟨by rw [HE.out]; rfl, by rw [HE.out]; exact H2.out, .of_below HBW.out⟩
  | true =>
    have HH : Hid (¬ d.has k = false) := Lib.hid (by rw [hh]; decide)
    clear hh
    by_cases hc0 : c < 0
    · have hg : c < 0 := hc0
      have HE : Hid (d.cut k c = (d, 2)) := Lib.hid (by unfold Dk.cut; rw [if_neg HH.out, if_pos (.inl hc0)])
      go_wp2_with fail
      go_ret
      exact ⟨by rw [HE.out]; rfl, by rw [HE.out]; exact H2.out, .of_below HBW.out⟩
    · obtain ⟨cn, rfl⟩ : ∃ cn : Nat, c = cn := ⟨c.toNat, by omega⟩
      by_cases hc1 : (d.file k).b.length < cn
      · have hc2 : ((d.file k).b.length : Int) < cn := by omega
        have HE : Hid (d.cut k cn = (d, 2)) := Lib.hid (by unfold Dk.cut; rw [if_neg HH.out, if_pos (.inr (by omega))])
        go_wp2_with fail
        go_ret
        exact ⟨by rw [HE.out]; rfl, by rw [HE.out]; exact H2.out, .of_below HBW.out⟩
      · by_cases hs : (d.file k).safe < (d.file k).b.length
        · have hs2 : ((d.file k).safe : Int) < (d.file k).b.length := by omega
          have hc2 : ¬ ((d.file k).b.length : Int) < cn := by omega
          have HE : Hid (d.cut k cn = (d, 10)) := Lib.hid (by unfold Dk.cut; rw [if_neg HH.out, if_neg (by omega), if_pos hs])
          go_wp2_with fail
          go_ret
          exact ⟨by rw [HE.out]; rfl, by rw [HE.out]; exact H2.out, .of_below HBW.out⟩
        · have hs2 : ¬ ((d.file k).safe : Int) < (d.file k).b.length := by omega
          have hc2 : ¬ ((d.file k).b.length : Int) < cn := by omega
          have HE : Hid (d.cut k cn = d.wr (nput d.fs k ⟨(d.file k).b.take cn, cn, true⟩)) := Lib.hid (by unfold Dk.cut; rw [if_neg HH.out, if_neg (by omega), if_neg hs]; simp)
          have HC1 := Lib.hid hc1
          have HO : Hid (d.cut k cn).1.Ok := Lib.hid (H.out.ok.cut k cn)
          by_cases h0 : d.left = 0
          · have HW := Lib.hid (fun f => write_off H2.out h0 f)
            have HE2 : Hid (d.cut k cn = (d, 13)) := Lib.hid (by rw [HE.out]; unfold Dk.wr; rw [if_pos h0])
            clear h0
            go_wp2_with fail
            refine (HW.out _).mono ?_
            rintro e w3 ⟨rfl, rfl⟩
            go_wp2_with fail
            go_ret
            exact ⟨by rw [HE2.out]; rfl, by rw [HE2.out]; exact H2.out, .of_below HBW.out⟩
          · have HE2 : Hid (d.cut k cn = (d.tick (nput d.fs k ⟨(d.file k).b.take cn, cn, true⟩), 0)) := Lib.hid (by rw [HE.out]; unfold Dk.wr; rw [if_neg h0])
            have HW := Lib.hid (write_on H2.out h0 hw 63 (enters_of Try.func63 (by kernel_rfl) rfl) #[.pointer (some ⟨w1.heap.size, 0, none⟩), .pointer (some ⟨w.heap.size + 1 + 1, 0, none⟩), .pointer (some ⟨w.heap.size, 0, none⟩), .pointer (some ⟨w.heap.size + 1, 0, none⟩)] (fun w' => DiskAt w' p m (d.cut k cn).1 ∧ Dw w w' p m) (fun w3 h3 h4 => by
              have hgf : w1.heap.size < w2.heap.size := lt_blk HF.out
              have hgp : w1.heap.size ≠ p := by have := H0.out.lt; omega
              have hf := HV.out
              obtain ⟨_, _, e1, _, _, hsafe, hlen, _⟩ := hf
              have hbs := H2.out.bs (h4.dw m) (Nat.le_refl _) ((HBS.out.below HB2.out).more HB2.out.size)
              refine (cut1_at (raw_of H2.out h3 h4) (by have := H2.out.ok.count; omega) k hk w1.heap.size (w.heap.size + 1 + 1) w.heap.size (w.heap.size + 1) A (d.file k).b.length cap (d.file k) rfl ((h4.block _ hgf hgp).trans HF.out) (hbs.more h4.size) HA0.out hlen HCP.out cn (by have := HC1.out; omega) ((World.cell?_of_block (h4.block _ (cell_lt x3) (by show w.heap.size + 1 + 1 ≠ p; have := H.out.lt; omega))).trans x3) ((World.cell?_of_block (h4.block _ (cell_lt x1) (by show w.heap.size ≠ p; have := H.out.lt; omega))).trans x1) ((World.cell?_of_block (h4.block _ (cell_lt x2) (by show w.heap.size + 1 ≠ p; have := H.out.lt; omega))).trans x2)).mono ?_
              rintro e w4 ⟨rfl, h5, h6⟩
              have h7 := HO.out
              rw [HE2.out] at h7 ⊢
              exact ⟨rfl, h5.disk h7, ((Dw.of_below HBW.out).trans (h4.dw m)).new h6 (by have := HB.out.size; omega)⟩))
            clear h0
            go_wp2_with fail
            refine HW.out.mono ?_
            rintro e w3 ⟨rfl, h5, h6⟩
            have H5 := Lib.hid h5; have H6 := Lib.hid h6
            clear h5 h6
            go_wp2_with fail
            go_ret
            exact ⟨by rw [HE2.out]; rfl, H5.out, H6.out⟩
end Go.Proofs.Ytdmodhcbcpmadaa
