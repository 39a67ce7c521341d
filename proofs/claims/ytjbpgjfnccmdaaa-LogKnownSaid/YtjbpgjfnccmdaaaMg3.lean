/- several texts in one: disk.Rename, Append (printed by gen_disk.py)., disk.Append (printed by gen_disk.py)., logs in memory; Commit. -/
import Derived.Test.YtjbpgjfnccmdaaaMm
import Derived.Test.YtjbpgjfnccmdaaaMg1
import Derived.Test.YtjbpgjfnccmdaaaMn
import Derived.Test.YtjbpgjfnccmdaaaMe
import Derived.Test.YtjbpgjfnccmdaaaMv
import Derived.Test.YtjbpgjfnccmdaaaOd
section
set_option linter.unusedSimpArgs false
set_option linter.unusedVariables false
namespace Go.Proofs.Ytjbpgjfnccmdaaa
open Go.RowKit

set_option maxRecDepth 100000 in
set_option maxHeartbeats 2000000 in
theorem rename_at {w : World} {p m : Nat} {d : Dk} (h : DiskAt w p m d) (hw : d.writes < 1000000000000) (k : Nm) (hk : k.length ≤ 9223372036854775807) (k' : Nm) (hk' : k'.length ≤ 9223372036854775807) :
    Calls Try.prog 32 #[.pointer (some ⟨p, 0, none⟩), .string (str k), .string (str k')] w (DiskP w p m (d.rename k k')) := by
  have H := Lib.hid h
  clear h
  go_enter Try.func32, Try.ntmps32
  go_wp2_with fail
  obtain ⟨b0_, b1_, b2_, hb_⟩ := boxes3 w (.cells #[.pointer (some ⟨p, 0, none⟩)] 24) (.cells #[.string (str k)] 9) (.cells #[.string (str k')] 9)
  generalize ((w.alloc (.cells #[.pointer (some ⟨p, 0, none⟩)] 24)).alloc (.cells #[.string (str k)] 9)).alloc (.cells #[.string (str k')] 9) = w0 at *
  have T0b : Hid (∀ W, Below w0.heap.size w0 W → W.heap[w.heap.size]? = some (.cells #[.pointer (some ⟨p, 0, none⟩)] 24 (0, 0))) := Lib.hid (fun W hW => (hW.block _ (lt_blk b0_)).trans b0_)
  have T0 : Hid (∀ W, Below w0.heap.size w0 W → W.cell? ⟨w.heap.size, 0, none⟩ = some (.pointer (some ⟨p, 0, none⟩))) := Lib.hid (fun W hW => by have e := (hW.block _ (lt_blk b0_)).trans b0_; exact by rw [cell_blk e]; rfl)
  have T1b : Hid (∀ W, Below w0.heap.size w0 W → W.heap[w.heap.size + 1]? = some (.cells #[.string (str k)] 9 (0, 0))) := Lib.hid (fun W hW => (hW.block _ (lt_blk b1_)).trans b1_)
  have T1 : Hid (∀ W, Below w0.heap.size w0 W → W.cell? ⟨w.heap.size + 1, 0, none⟩ = some (.string (str k))) := Lib.hid (fun W hW => by have e := (hW.block _ (lt_blk b1_)).trans b1_; exact by rw [cell_blk e]; rfl)
  have T2b : Hid (∀ W, Below w0.heap.size w0 W → W.heap[w.heap.size + 1 + 1]? = some (.cells #[.string (str k')] 9 (0, 0))) := Lib.hid (fun W hW => (hW.block _ (lt_blk b2_)).trans b2_)
  have T2 : Hid (∀ W, Below w0.heap.size w0 W → W.cell? ⟨w.heap.size + 1 + 1, 0, none⟩ = some (.string (str k'))) := Lib.hid (fun W hW => by have e := (hW.block _ (lt_blk b2_)).trans b2_; exact by rw [cell_blk e]; rfl)
  have HB := Lib.hid hb_
  clear hb_ b0_ b1_ b2_
  have H0 := Lib.hid (H.out.below HB.out)
  refine (none_at H0.out).mono ?_
  rintro e w1 ⟨rfl, rfl⟩
  have x1 := T0.out w1 (Below.refl _ _)
  have xn := T2.out w1 (Below.refl _ _)
  have HNM := Lib.hid (named_any k' (by omega) w1)
  go_wp2_with fail
  refine HNM.out.mono ?_
  rintro e wn ⟨rfl, hbn⟩
  have T0n := Lib.hid (fun W (hW : Below wn.heap.size wn W) => T0.out W (hbn.trans (hW.mono hbn.size)))
  have T1n := Lib.hid (fun W (hW : Below wn.heap.size wn W) => T1.out W (hbn.trans (hW.mono hbn.size)))
  have T2n := Lib.hid (fun W (hW : Below wn.heap.size wn W) => T2.out W (hbn.trans (hW.mono hbn.size)))
  have HBn := Lib.hid (HB.out.trans (hbn.mono HB.out.size))
  have H0n := Lib.hid (H0.out.below hbn)
  clear hbn HNM x1 xn HB H0 T0 T1 T2
  cases hnn : nameOk k' with
  | false =>
    have HE : Hid (d.rename k k' = (d, 2)) := Lib.hid (by unfold Dk.rename; rw [if_pos hnn])
    clear hnn
    go_wp2_with fail
    go_ret
    exact ⟨by rw [HE.out]; rfl, by rw [HE.out]; exact H0n.out, .of_below HBn.out⟩
  | true =>
    have HNN : Hid (¬ nameOk k' = false) := Lib.hid (by rw [hnn]; decide)
    clear hnn
    obtain ⟨A, cap, hv, hl1, hl2, hbs, hA0, hcap⟩ := look_file H0n.out k hk
    have HV := Lib.hid hv; have HL := Lib.hid hl1; have HBS := Lib.hid hbs; have HA0 := Lib.hid hA0; have HCP := Lib.hid hcap
    clear hv hl1 hl2 hbs hA0 hcap
    have x1 := T0n.out wn (Below.refl _ _)
    have x2 := T1n.out wn (Below.refl _ _)
    have x3 := cell_blk H0n.out.own 1
    simp only [List.getElem?_toArray, List.getElem?_cons_succ, List.getElem?_cons_zero] at x3
    have y1 := fun o => T0n.out (wn.alloc o) (below_alloc wn o)
    have y2 := fun o => T1n.out (wn.alloc o) (below_alloc wn o)
    have y3 : ∀ o, (wn.alloc o).cell? ⟨p, 1, none⟩ = some (.map (some m)) := fun o => by have := cell_blk (H0n.out.below (below_alloc wn o)).own 1; exact this
    have l1 := HL.out wn.drew rfl
    have l2 := fun o => HL.out (wn.alloc o).drew (Below.heap_alloc _ _ _ H0n.out.ltm)
    go_wp2_with fail
    go_region
    obtain ⟨hfb, hbl⟩ := boxes1 wn (.cells #[.slice A (d.file k).b.length cap, .int .i64 (d.file k).safe, .bool (d.file k).kept] 79)
    have hfb2 : (wn.alloc (.cells #[.slice A (d.file k).b.length cap, .int .i64 (d.file k).safe, .bool (d.file k).kept] 79)).drew.heap[wn.heap.size]? = _ := hfb
    have hbl2 := hbl.drew
    generalize (wn.alloc (.cells #[.slice A (d.file k).b.length cap, .int .i64 (d.file k).safe, .bool (d.file k).kept] 79)).drew = w2 at *
    have HF := Lib.hid hfb2; have HB2 := Lib.hid hbl2
    clear x1 x2 x3 y1 y2 y3 l1 l2 hfb hbl hfb2 hbl2
    have H2 := Lib.hid (H0n.out.below HB2.out)
    have HBW := Lib.hid (HBn.out.trans (HB2.out.mono HBn.out.size))
    have x1 := T0n.out w2 HB2.out
    have x2 := T1n.out w2 HB2.out
    have x3 := T2n.out w2 HB2.out
    have hfc := fun i => cell_blk HF.out i
    have f0 := hfc 0
    have f1 := hfc 1
    simp only [List.getElem?_toArray, List.getElem?_cons_succ, List.getElem?_cons_zero] at f0 f1
    clear hfc
    have HFL := Lib.hid (H.out.ok.file k)
    cases hh : d.has k with
    | false =>
      have HE : Hid (d.rename k k' = (d, 6)) := Lib.hid (by unfold Dk.rename; rw [if_neg HNN.out, if_pos hh])
      go_wp2_with fail
      go_ret
      exact ⟨by rw [HE.out]; rfl, by rw [HE.out]; exact H2.out, .of_below HBW.out⟩
    | true =>
      have HH : Hid (¬ d.has k = false) := Lib.hid (by rw [hh]; decide)
      clear hh
      by_cases hs : (d.file k).safe < (d.file k).b.length
      · have hs2 : ((d.file k).safe : Int) < (d.file k).b.length := by omega
        have HE : Hid (d.rename k k' = (d, 10)) := Lib.hid (by unfold Dk.rename; rw [if_neg HNN.out, if_neg HH.out, if_pos hs])
        go_wp2_with fail
        go_ret
        exact ⟨by rw [HE.out]; rfl, by rw [HE.out]; exact H2.out, .of_below HBW.out⟩
      · have hs2 : ¬ ((d.file k).safe : Int) < (d.file k).b.length := by omega
        have HE : Hid (d.rename k k' = d.wr (nput (ndel d.fs k) k' ⟨(d.file k).b, (d.file k).safe, true⟩)) := Lib.hid (by unfold Dk.rename; rw [if_neg HNN.out, if_neg HH.out, if_neg hs])
        have HO : Hid (d.rename k k').1.Ok := Lib.hid (H.out.ok.rename k k')
        by_cases h0 : d.left = 0
        · have HW := Lib.hid (fun f => write_off H2.out h0 f)
          have HE2 : Hid (d.rename k k' = (d, 13)) := Lib.hid (by rw [HE.out]; unfold Dk.wr; rw [if_pos h0])
          clear h0
          go_wp2_with fail
          refine (HW.out _).mono ?_
          rintro e w3 ⟨rfl, rfl⟩
          go_wp2_with fail
          go_ret
          exact ⟨by rw [HE2.out]; rfl, by rw [HE2.out]; exact H2.out, .of_below HBW.out⟩
        · have HE2 : Hid (d.rename k k' = (d.tick (nput (ndel d.fs k) k' ⟨(d.file k).b, (d.file k).safe, true⟩), 0)) := Lib.hid (by rw [HE.out]; unfold Dk.wr; rw [if_neg h0])
          have HW := Lib.hid (write_on H2.out h0 hw 71 (enters_of Try.func71 (by kernel_rfl) rfl) #[.pointer (some ⟨w.heap.size, 0, none⟩), .pointer (some ⟨w.heap.size + 1, 0, none⟩), .pointer (some ⟨wn.heap.size, 0, none⟩), .pointer (some ⟨w.heap.size + 1 + 1, 0, none⟩)] (fun w' => DiskAt w' p m (d.rename k k').1 ∧ Dw w w' p m) (fun w3 h3 h4 => by
            have hgf : wn.heap.size < w2.heap.size := lt_blk HF.out
            have hgp : wn.heap.size ≠ p := by have := H0n.out.lt; omega
            have hf := HV.out
            obtain ⟨_, _, e1, _, _, hsafe, hlen, _⟩ := hf
            have hbs := H2.out.bs (h4.dw m) (Nat.le_refl _) ((HBS.out.below HB2.out).more HB2.out.size)
            refine (rename1_at (raw_of H2.out h3 h4) (by have := H2.out.ok.count; omega) k k' hk hk' wn.heap.size w.heap.size (w.heap.size + 1) (w.heap.size + 1 + 1) hgp A (d.file k).b.length cap (d.file k) ((h4.block _ hgf hgp).trans HF.out) ⟨A, cap, rfl, hbs.more h4.size, HCP.out, hsafe, hlen, HA0.out⟩ ((World.cell?_of_block (h4.block _ (cell_lt x1) (by show w.heap.size ≠ p; have := H.out.lt; omega))).trans x1) ((World.cell?_of_block (h4.block _ (cell_lt x2) (by show w.heap.size + 1 ≠ p; have := H.out.lt; omega))).trans x2) ((World.cell?_of_block (h4.block _ (cell_lt x3) (by show w.heap.size + 1 + 1 ≠ p; have := H.out.lt; omega))).trans x3) (Nat.ne_of_lt (cell_lt (T0n.out wn (Below.refl _ _)))) (Nat.ne_of_lt (cell_lt (T2n.out wn (Below.refl _ _))))).mono ?_
            rintro e w4 ⟨rfl, h5, h6⟩
            have h7 := HO.out
            rw [HE2.out] at h7 ⊢
            exact ⟨rfl, h5.disk h7, ((Dw.of_below HBW.out).trans (h4.dw m)).new h6 (by have := HBn.out.size; omega)⟩))
          clear h0
          go_wp2_with fail
          refine HW.out.mono ?_
          rintro e w3 ⟨rfl, h5, h6⟩
          have H5 := Lib.hid h5; have H6 := Lib.hid h6
          clear h5 h6
          go_wp2_with fail
          go_ret
          exact ⟨by rw [HE2.out]; rfl, H5.out, H6.out⟩
end Go.Proofs.Ytjbpgjfnccmdaaa
end

section
set_option linter.unusedSimpArgs false
set_option linter.unusedVariables false
namespace Go.Proofs.Ytjbpgjfnccmdaaa
open Go.RowKit

set_option maxRecDepth 100000 in
set_option maxHeartbeats 2000000 in
theorem append_at {w : World} {p m : Nat} {d : Dk} (h : DiskAt w p m d) (hw : d.writes < 1000000000000) (k : Nm) (hk : k.length ≤ 9223372036854775807) (b : List UInt8) (n : Nat) (hn : n = b.length) (hn2 : n ≤ 100000000) (C : Option Addr) (capb : Nat) (hC : Bs w w.heap.size C b) (hC0 : C = none → b = []) :
    Calls Try.prog 24 #[.pointer (some ⟨p, 0, none⟩), .string (str k), .slice C n capb] w (DiskP w p m (d.append k b)) := by
  have H := Lib.hid h
  have HN := Lib.hid hn; have HC := Lib.hid hC; have HC0 := Lib.hid hC0
  clear h hn hC hC0
  go_enter Try.func24, Try.ntmps24
  go_wp2_with fail
  obtain ⟨b0_, b1_, b2_, hb_⟩ := boxes3 w (.cells #[.pointer (some ⟨p, 0, none⟩)] 24) (.cells #[.string (str k)] 9) (.cells #[.slice C n capb] 31)
  generalize ((w.alloc (.cells #[.pointer (some ⟨p, 0, none⟩)] 24)).alloc (.cells #[.string (str k)] 9)).alloc (.cells #[.slice C n capb] 31) = w0 at *
  have T0b : Hid (∀ W, Below w0.heap.size w0 W → W.heap[w.heap.size]? = some (.cells #[.pointer (some ⟨p, 0, none⟩)] 24 (0, 0))) := Lib.hid (fun W hW => (hW.block _ (lt_blk b0_)).trans b0_)
  have T0 : Hid (∀ W, Below w0.heap.size w0 W → W.cell? ⟨w.heap.size, 0, none⟩ = some (.pointer (some ⟨p, 0, none⟩))) := Lib.hid (fun W hW => by have e := (hW.block _ (lt_blk b0_)).trans b0_; exact by rw [cell_blk e]; rfl)
  have T1b : Hid (∀ W, Below w0.heap.size w0 W → W.heap[w.heap.size + 1]? = some (.cells #[.string (str k)] 9 (0, 0))) := Lib.hid (fun W hW => (hW.block _ (lt_blk b1_)).trans b1_)
  have T1 : Hid (∀ W, Below w0.heap.size w0 W → W.cell? ⟨w.heap.size + 1, 0, none⟩ = some (.string (str k))) := Lib.hid (fun W hW => by have e := (hW.block _ (lt_blk b1_)).trans b1_; exact by rw [cell_blk e]; rfl)
  have T2b : Hid (∀ W, Below w0.heap.size w0 W → W.heap[w.heap.size + 1 + 1]? = some (.cells #[.slice C n capb] 31 (0, 0))) := Lib.hid (fun W hW => (hW.block _ (lt_blk b2_)).trans b2_)
  have T2 : Hid (∀ W, Below w0.heap.size w0 W → W.cell? ⟨w.heap.size + 1 + 1, 0, none⟩ = some (.slice C n capb)) := Lib.hid (fun W hW => by have e := (hW.block _ (lt_blk b2_)).trans b2_; exact by rw [cell_blk e]; rfl)
  have HB := Lib.hid hb_
  clear hb_ b0_ b1_ b2_
  have H0 := Lib.hid (H.out.below HB.out)
  refine (none_at H0.out).mono ?_
  rintro e w1 ⟨rfl, rfl⟩
  have x1 := T0.out w1 (Below.refl _ _)
  have xn := T1.out w1 (Below.refl _ _)
  have HNM := Lib.hid (named_any k (by omega) w1)
  go_wp2_with fail
  refine HNM.out.mono ?_
  rintro e wn ⟨rfl, hbn⟩
  have T0n := Lib.hid (fun W (hW : Below wn.heap.size wn W) => T0.out W (hbn.trans (hW.mono hbn.size)))
  have T1n := Lib.hid (fun W (hW : Below wn.heap.size wn W) => T1.out W (hbn.trans (hW.mono hbn.size)))
  have T2n := Lib.hid (fun W (hW : Below wn.heap.size wn W) => T2.out W (hbn.trans (hW.mono hbn.size)))
  have HBn := Lib.hid (HB.out.trans (hbn.mono HB.out.size))
  have H0n := Lib.hid (H0.out.below hbn)
  clear hbn HNM x1 xn HB H0 T0 T1 T2
  cases hnn : nameOk k with
  | false =>
    have HE : Hid (d.append k b = (d, 2)) := Lib.hid (by unfold Dk.append; rw [if_pos hnn])
    clear hnn
    go_wp2_with fail
    go_ret
    exact ⟨by rw [HE.out]; rfl, by rw [HE.out]; exact H0n.out, .of_below HBn.out⟩
  | true =>
    have HNN : Hid (¬ nameOk k = false) := Lib.hid (by rw [hnn]; decide)
    clear hnn
    obtain ⟨A, cap, hv, hl1, hl2, hbs, hA0, hcap⟩ := look_file H0n.out k hk
    have HV := Lib.hid hv; have HL := Lib.hid hl1; have HBS := Lib.hid hbs; have HA0 := Lib.hid hA0; have HCP := Lib.hid hcap
    clear hv hl1 hl2 hbs hA0 hcap
    have x1 := T0n.out wn (Below.refl _ _)
    have x2 := T1n.out wn (Below.refl _ _)
    have x3 := cell_blk H0n.out.own 1
    simp only [List.getElem?_toArray, List.getElem?_cons_succ, List.getElem?_cons_zero] at x3
    have y1 := fun o => T0n.out (wn.alloc o) (below_alloc wn o)
    have y2 := fun o => T1n.out (wn.alloc o) (below_alloc wn o)
    have y3 : ∀ o, (wn.alloc o).cell? ⟨p, 1, none⟩ = some (.map (some m)) := fun o => by have := cell_blk (H0n.out.below (below_alloc wn o)).own 1; exact this
    have l1 := HL.out wn.drew rfl
    have l2 := fun o => HL.out (wn.alloc o).drew (Below.heap_alloc _ _ _ H0n.out.ltm)
    go_wp2_with fail
    go_region
    obtain ⟨hfb, hbl⟩ := boxes1 wn (.cells #[.slice A (d.file k).b.length cap, .int .i64 (d.file k).safe, .bool (d.file k).kept] 79)
    have hfb2 : (wn.alloc (.cells #[.slice A (d.file k).b.length cap, .int .i64 (d.file k).safe, .bool (d.file k).kept] 79)).drew.heap[wn.heap.size]? = _ := hfb
    have hbl2 := hbl.drew
    generalize (wn.alloc (.cells #[.slice A (d.file k).b.length cap, .int .i64 (d.file k).safe, .bool (d.file k).kept] 79)).drew = w2 at *
    have HF := Lib.hid hfb2; have HB2 := Lib.hid hbl2
    clear x1 x2 x3 y1 y2 y3 l1 l2 hfb hbl hfb2 hbl2
    have H2 := Lib.hid (H0n.out.below HB2.out)
    have HBW := Lib.hid (HBn.out.trans (HB2.out.mono HBn.out.size))
    have x1 := T0n.out w2 HB2.out
    have x2 := T1n.out w2 HB2.out
    have x3 := T2n.out w2 HB2.out
    obtain ⟨vs0, hm0, ha0⟩ := H2.out.files
    have hlen0 : vs0.length = d.fs.length := ha0.length
    have HCC : Hid (∀ W, Below w2.heap.size w2 W → W.cell? ⟨w.heap.size, 0, none⟩ = some (.pointer (some ⟨p, 0, none⟩)) ∧ W.cell? ⟨w.heap.size + 1 + 1, 0, none⟩ = some (.slice C n capb) ∧ W.cell? ⟨p, 0, none⟩ = some (.int .i64 d.size) ∧ W.cell? ⟨p, 1, none⟩ = some (.map (some m)) ∧ ∀ ty, (Builtin.len_ #[UM] ty #[.map (some m)]).run Try.prog W = .ok (.int .i64 d.fs.length) W) := Lib.hid fun W h => by
      have a0 := cell_blk ((h.block _ H2.out.lt).trans H2.out.own) 0
      have a1 := cell_blk ((h.block _ H2.out.lt).trans H2.out.own) 1
      refine ⟨T0n.out W (HB2.out.trans (h.mono HB2.out.size)), T2n.out W (HB2.out.trans (h.mono HB2.out.size)), a0, a1, fun ty => ?_⟩
      have h1 := (hm0.at (h.block m hm0.lt)).len Try.underlying42 ty
      rw [kd_size, hlen0] at h1
      exact h1
    have HUS := Lib.hid (fun W (hW : Below w2.heap.size w2 W) => used_at (H2.out.below hW))
    clear hm0 ha0 hlen0
    have HFL := Lib.hid (H.out.ok.file k)
    have hsz := H.out.ok.size
    have hus := H.out.ok.used
    have hct := H.out.ok.count
    have hwr : IntKind.i64.wrap ((d.size : Int) - (d.used : Int)) = (d.size : Int) - (d.used : Int) := wi64 _ (by omega) (by omega)
    have HCB : Hid (Bs w2 w2.heap.size C b) := Lib.hid ((HC.out.below HBW.out).more HBW.out.size)
    cases hh : d.has k with
    | true =>
      by_cases hfull : d.size < d.used + n
      · have hq : (d.size : Int) - d.used < n := by omega
        go_upto_region 6 with (fail)
        apply wp_region_relH (H := []) 22 [(Sum.inl _ : TT), (Sum.inl _ : TT), (Sum.inl _ : TT), (Sum.inl _ : TT), (Sum.inl _ : TT), (Sum.inl _ : TT), (Sum.inl _ : TT), (Sum.inl _ : TT), (Sum.inl _ : TT), (Sum.inl _ : TT), (Sum.inl _ : TT), (Sum.inl _ : TT), (Sum.inl _ : TT), (Sum.inl _ : TT), (Sum.inl _ : TT), (Sum.inl _ : TT), (Sum.inl _ : TT), (Sum.inl _ : TT), (Sum.inl _ : TT), (Sum.inl _ : TT), (Sum.inl _ : TT), (Sum.inl _ : TT)] (by kernel_rfl) (by kernel_rfl) (fun _ _ _ _ _ h => h) rfl
        simp only [List.take_succ_cons, List.take_zero, List.drop_succ_cons, List.drop_zero]
        iterate 18 (apply rel_isS; (intro W hW hf; obtain ⟨z1, z2, z3, z4, z5⟩ := HCC.out W hW; go_simp; first | exact ⟨StayS.refl _ _, rfl⟩ | rfl); simp only [Act.put, List.setIfInBounds_toArray, List.set_cons_succ, List.set_cons_zero])
        apply rel_isS
        · intro W hW hf
          exact rel_callS hW (by first | rfl | (go_simp; done) | (go_simp; simp)) (by go_simp <;> first | rfl | exact ⟨rfl, rfl⟩ | exact ⟨rfl, rfl, rfl⟩) ((HUS.out W hW).mono fun e w'' h => ⟨_, h.1, h.2, rfl⟩)
        simp only [Act.put, List.setIfInBounds_toArray, List.set_cons_succ, List.set_cons_zero]
        iterate 3 (apply rel_isS; (intro W hW hf; obtain ⟨z1, z2, z3, z4, z5⟩ := HCC.out W hW; go_simp; first | exact ⟨StayS.refl _ _, rfl⟩ | rfl); simp only [Act.put, List.setIfInBounds_toArray, List.set_cons_succ, List.set_cons_zero])
        refine rel_endS ?_
        intro W hW hf
        try simp only [Act.put, List.setIfInBounds_toArray, List.set_cons_succ, List.set_cons_zero]
        refine wpList_nil ?_
        have HH6 := Lib.hid hW
        clear hW hf
        have H7 := Lib.hid (H2.out.below HH6.out)
        have HB7 := Lib.hid (HB2.out.trans (HH6.out.mono HB2.out.size))
        have HBW7 := Lib.hid (HBn.out.trans (HB7.out.mono HBn.out.size))
        have HF7 := Lib.hid ((HH6.out.block _ (lt_blk HF.out)).trans HF.out)
        have HCB7 := Lib.hid ((HCB.out.below HH6.out).more HH6.out.size)
        have x1 := T0n.out W HB7.out
        have x2 := T1n.out W HB7.out
        have x3 := T2n.out W HB7.out
        have HE : Hid (d.append k b = (d, 8)) := Lib.hid (by unfold Dk.append; rw [if_neg HNN.out, if_pos (.inr (by rw [← HN.out]; exact hfull))])
        go_wp2_with fail
        go_ret
        exact ⟨by rw [HE.out]; rfl, by rw [HE.out]; exact H7.out, .of_below HBW7.out⟩
      · have hq : ¬ (d.size : Int) - d.used < n := by omega
        go_upto_region 6 with (fail)
        apply wp_region_relH (H := []) 22 [(Sum.inl _ : TT), (Sum.inl _ : TT), (Sum.inl _ : TT), (Sum.inl _ : TT), (Sum.inl _ : TT), (Sum.inl _ : TT), (Sum.inl _ : TT), (Sum.inl _ : TT), (Sum.inl _ : TT), (Sum.inl _ : TT), (Sum.inl _ : TT), (Sum.inl _ : TT), (Sum.inl _ : TT), (Sum.inl _ : TT), (Sum.inl _ : TT), (Sum.inl _ : TT), (Sum.inl _ : TT), (Sum.inl _ : TT), (Sum.inl _ : TT), (Sum.inl _ : TT), (Sum.inl _ : TT), (Sum.inl _ : TT)] (by kernel_rfl) (by kernel_rfl) (fun _ _ _ _ _ h => h) rfl
        simp only [List.take_succ_cons, List.take_zero, List.drop_succ_cons, List.drop_zero]
        iterate 18 (apply rel_isS; (intro W hW hf; obtain ⟨z1, z2, z3, z4, z5⟩ := HCC.out W hW; go_simp; first | exact ⟨StayS.refl _ _, rfl⟩ | rfl); simp only [Act.put, List.setIfInBounds_toArray, List.set_cons_succ, List.set_cons_zero])
        apply rel_isS
        · intro W hW hf
          exact rel_callS hW (by first | rfl | (go_simp; done) | (go_simp; simp)) (by go_simp <;> first | rfl | exact ⟨rfl, rfl⟩ | exact ⟨rfl, rfl, rfl⟩) ((HUS.out W hW).mono fun e w'' h => ⟨_, h.1, h.2, rfl⟩)
        simp only [Act.put, List.setIfInBounds_toArray, List.set_cons_succ, List.set_cons_zero]
        iterate 3 (apply rel_isS; (intro W hW hf; obtain ⟨z1, z2, z3, z4, z5⟩ := HCC.out W hW; go_simp; first | exact ⟨StayS.refl _ _, rfl⟩ | rfl); simp only [Act.put, List.setIfInBounds_toArray, List.set_cons_succ, List.set_cons_zero])
        refine rel_endS ?_
        intro W hW hf
        try simp only [Act.put, List.setIfInBounds_toArray, List.set_cons_succ, List.set_cons_zero]
        refine wpList_nil ?_
        have HH6 := Lib.hid hW
        clear hW hf
        have H7 := Lib.hid (H2.out.below HH6.out)
        have HB7 := Lib.hid (HB2.out.trans (HH6.out.mono HB2.out.size))
        have HBW7 := Lib.hid (HBn.out.trans (HB7.out.mono HBn.out.size))
        have HF7 := Lib.hid ((HH6.out.block _ (lt_blk HF.out)).trans HF.out)
        have HCB7 := Lib.hid ((HCB.out.below HH6.out).more HH6.out.size)
        have x1 := T0n.out W HB7.out
        have x2 := T1n.out W HB7.out
        have x3 := T2n.out W HB7.out
        have HE : Hid (d.append k b = d.wr (nput d.fs k ⟨(d.file k).b ++ b, (d.file k).safe, (d.file k).kept⟩)) := Lib.hid (by unfold Dk.append; rw [if_neg HNN.out, if_neg (fun h => by rcases h with h | h; exact absurd h.1 (by rw [hh]; decide); rw [← HN.out] at h; omega)])
        have HQ : Hid (d.used + n ≤ d.size) := Lib.hid (by omega)
        have HO : Hid (d.append k b).1.Ok := Lib.hid (H.out.ok.append k b)
        by_cases h0 : d.left = 0
        · have HW := Lib.hid (fun f => write_off H7.out h0 f)
          have HE2 : Hid (d.append k b = (d, 13)) := Lib.hid (by rw [HE.out]; unfold Dk.wr; rw [if_pos h0])
          clear h0
          go_wp2_with fail
          refine (HW.out _).mono ?_
          rintro e w3 ⟨rfl, rfl⟩
          go_wp2_with fail
          go_ret
          exact ⟨by rw [HE2.out]; rfl, by rw [HE2.out]; exact H7.out, .of_below HBW7.out⟩
        · have HE2 : Hid (d.append k b = (d.tick (nput d.fs k ⟨(d.file k).b ++ b, (d.file k).safe, (d.file k).kept⟩), 0)) := Lib.hid (by rw [HE.out]; unfold Dk.wr; rw [if_neg h0])
          have HW := Lib.hid (write_on H7.out h0 hw 55 (enters_of Try.func55 (by kernel_rfl) rfl) #[.pointer (some ⟨wn.heap.size, 0, none⟩), .pointer (some ⟨w.heap.size + 1 + 1, 0, none⟩), .pointer (some ⟨w.heap.size, 0, none⟩), .pointer (some ⟨w.heap.size + 1, 0, none⟩)] (fun w' => DiskAt w' p m (d.append k b).1 ∧ Dw w w' p m) (fun w3 h3 h4 => by
            have hgf : wn.heap.size < W.heap.size := lt_blk HF7.out
            have hgp : wn.heap.size ≠ p := by have := H0n.out.lt; omega
            have hf := HV.out
            obtain ⟨_, _, e1, _, _, hsafe, hlen, _⟩ := hf
            have hbs := H7.out.bs (h4.dw m) (Nat.le_refl _) ((HBS.out.below HB7.out).more HB7.out.size)
            have hcb := H7.out.bs (h4.dw m) (Nat.le_refl _) HCB7.out
            refine (append1_at (raw_of H7.out h3 h4) (by have := H7.out.ok.count; omega) k hk wn.heap.size (w.heap.size + 1 + 1) w.heap.size (w.heap.size + 1) hgp A (d.file k).b.length cap (d.file k) rfl ((h4.block _ hgf hgp).trans HF7.out) (hbs.more h4.size) HA0.out b n capb C HN.out (hcb.more h4.size) HC0.out (by have := HQ.out; have := HFL.out.2; omega) hsafe ((World.cell?_of_block (h4.block _ (cell_lt x3) (by show w.heap.size + 1 + 1 ≠ p; have := H.out.lt; omega))).trans x3) ((World.cell?_of_block (h4.block _ (cell_lt x1) (by show w.heap.size ≠ p; have := H.out.lt; omega))).trans x1) ((World.cell?_of_block (h4.block _ (cell_lt x2) (by show w.heap.size + 1 ≠ p; have := H.out.lt; omega))).trans x2) (Nat.ne_of_lt (cell_lt (T0n.out wn (Below.refl _ _)))) (Nat.ne_of_lt (cell_lt (T1n.out wn (Below.refl _ _))))).mono ?_
            rintro e w4 ⟨rfl, h5, h6⟩
            have h7 := HO.out
            rw [HE2.out] at h7 ⊢
            exact ⟨rfl, h5.disk h7, ((Dw.of_below HBW7.out).trans (h4.dw m)).new h6 (by have := HBn.out.size; omega)⟩))
          clear h0
          go_wp2_with fail
          refine HW.out.mono ?_
          rintro e w3 ⟨rfl, h5, h6⟩
          have H5 := Lib.hid h5; have H6 := Lib.hid h6
          clear h5 h6
          go_wp2_with fail
          go_ret
          exact ⟨by rw [HE2.out]; rfl, H5.out, H6.out⟩
    | false =>
      by_cases hmany : 256 ≤ d.fs.length
      · have hm2 : (256 : Int) ≤ d.fs.length := by omega
        go_upto_region 6 with (fail)
        apply wp_region_relH (H := []) 22 [(Sum.inl _ : TT), (Sum.inl _ : TT), (Sum.inl _ : TT), (Sum.inl _ : TT), (Sum.inl _ : TT), (Sum.inl _ : TT), (Sum.inl _ : TT), (Sum.inl _ : TT), (Sum.inl _ : TT), (Sum.inl _ : TT), (Sum.inl _ : TT), (Sum.inl _ : TT), (Sum.inl _ : TT), (Sum.inl _ : TT), (Sum.inl _ : TT), (Sum.inl _ : TT), (Sum.inl _ : TT), (Sum.inl _ : TT), (Sum.inl _ : TT), (Sum.inl _ : TT), (Sum.inl _ : TT), (Sum.inl _ : TT)] (by kernel_rfl) (by kernel_rfl) (fun _ _ _ _ _ h => h) rfl
        simp only [List.take_succ_cons, List.take_zero, List.drop_succ_cons, List.drop_zero]
        iterate 22 (apply rel_isS; (intro W hW hf; obtain ⟨z1, z2, z3, z4, z5⟩ := HCC.out W hW; go_simp; first | exact ⟨StayS.refl _ _, rfl⟩ | rfl); simp only [Act.put, List.setIfInBounds_toArray, List.set_cons_succ, List.set_cons_zero])
        refine rel_endS ?_
        intro W hW hf
        try simp only [Act.put, List.setIfInBounds_toArray, List.set_cons_succ, List.set_cons_zero]
        refine wpList_nil ?_
        have HH6 := Lib.hid hW
        clear hW hf
        have H7 := Lib.hid (H2.out.below HH6.out)
        have HB7 := Lib.hid (HB2.out.trans (HH6.out.mono HB2.out.size))
        have HBW7 := Lib.hid (HBn.out.trans (HB7.out.mono HBn.out.size))
        have HF7 := Lib.hid ((HH6.out.block _ (lt_blk HF.out)).trans HF.out)
        have HCB7 := Lib.hid ((HCB.out.below HH6.out).more HH6.out.size)
        have x1 := T0n.out W HB7.out
        have x2 := T1n.out W HB7.out
        have x3 := T2n.out W HB7.out
        have HE : Hid (d.append k b = (d, 8)) := Lib.hid (by unfold Dk.append; rw [if_neg HNN.out, if_pos (.inl ⟨hh, hmany⟩)])
        go_wp2_with fail
        go_ret
        exact ⟨by rw [HE.out]; rfl, by rw [HE.out]; exact H7.out, .of_below HBW7.out⟩
      · have hm2 : ¬ (256 : Int) ≤ d.fs.length := by omega
        by_cases hfull : d.size < d.used + n
        · have hq : (d.size : Int) - d.used < n := by omega
          go_upto_region 6 with (fail)
          apply wp_region_relH (H := []) 22 [(Sum.inl _ : TT), (Sum.inl _ : TT), (Sum.inl _ : TT), (Sum.inl _ : TT), (Sum.inl _ : TT), (Sum.inl _ : TT), (Sum.inl _ : TT), (Sum.inl _ : TT), (Sum.inl _ : TT), (Sum.inl _ : TT), (Sum.inl _ : TT), (Sum.inl _ : TT), (Sum.inl _ : TT), (Sum.inl _ : TT), (Sum.inl _ : TT), (Sum.inl _ : TT), (Sum.inl _ : TT), (Sum.inl _ : TT), (Sum.inl _ : TT), (Sum.inl _ : TT), (Sum.inl _ : TT), (Sum.inl _ : TT)] (by kernel_rfl) (by kernel_rfl) (fun _ _ _ _ _ h => h) rfl
          simp only [List.take_succ_cons, List.take_zero, List.drop_succ_cons, List.drop_zero]
          iterate 18 (apply rel_isS; (intro W hW hf; obtain ⟨z1, z2, z3, z4, z5⟩ := HCC.out W hW; go_simp; first | exact ⟨StayS.refl _ _, rfl⟩ | rfl); simp only [Act.put, List.setIfInBounds_toArray, List.set_cons_succ, List.set_cons_zero])
          apply rel_isS
          · intro W hW hf
            exact rel_callS hW (by first | rfl | (go_simp; done) | (go_simp; simp)) (by go_simp <;> first | rfl | exact ⟨rfl, rfl⟩ | exact ⟨rfl, rfl, rfl⟩) ((HUS.out W hW).mono fun e w'' h => ⟨_, h.1, h.2, rfl⟩)
          simp only [Act.put, List.setIfInBounds_toArray, List.set_cons_succ, List.set_cons_zero]
          iterate 3 (apply rel_isS; (intro W hW hf; obtain ⟨z1, z2, z3, z4, z5⟩ := HCC.out W hW; go_simp; first | exact ⟨StayS.refl _ _, rfl⟩ | rfl); simp only [Act.put, List.setIfInBounds_toArray, List.set_cons_succ, List.set_cons_zero])
          refine rel_endS ?_
          intro W hW hf
          try simp only [Act.put, List.setIfInBounds_toArray, List.set_cons_succ, List.set_cons_zero]
          refine wpList_nil ?_
          have HH6 := Lib.hid hW
          clear hW hf
          have H7 := Lib.hid (H2.out.below HH6.out)
          have HB7 := Lib.hid (HB2.out.trans (HH6.out.mono HB2.out.size))
          have HBW7 := Lib.hid (HBn.out.trans (HB7.out.mono HBn.out.size))
          have HF7 := Lib.hid ((HH6.out.block _ (lt_blk HF.out)).trans HF.out)
          have HCB7 := Lib.hid ((HCB.out.below HH6.out).more HH6.out.size)
          have x1 := T0n.out W HB7.out
          have x2 := T1n.out W HB7.out
          have x3 := T2n.out W HB7.out
          have HE : Hid (d.append k b = (d, 8)) := Lib.hid (by unfold Dk.append; rw [if_neg HNN.out, if_pos (.inr (by rw [← HN.out]; exact hfull))])
          go_wp2_with fail
          go_ret
          exact ⟨by rw [HE.out]; rfl, by rw [HE.out]; exact H7.out, .of_below HBW7.out⟩
        · have hq : ¬ (d.size : Int) - d.used < n := by omega
          go_upto_region 6 with (fail)
          apply wp_region_relH (H := []) 22 [(Sum.inl _ : TT), (Sum.inl _ : TT), (Sum.inl _ : TT), (Sum.inl _ : TT), (Sum.inl _ : TT), (Sum.inl _ : TT), (Sum.inl _ : TT), (Sum.inl _ : TT), (Sum.inl _ : TT), (Sum.inl _ : TT), (Sum.inl _ : TT), (Sum.inl _ : TT), (Sum.inl _ : TT), (Sum.inl _ : TT), (Sum.inl _ : TT), (Sum.inl _ : TT), (Sum.inl _ : TT), (Sum.inl _ : TT), (Sum.inl _ : TT), (Sum.inl _ : TT), (Sum.inl _ : TT), (Sum.inl _ : TT)] (by kernel_rfl) (by kernel_rfl) (fun _ _ _ _ _ h => h) rfl
          simp only [List.take_succ_cons, List.take_zero, List.drop_succ_cons, List.drop_zero]
          iterate 18 (apply rel_isS; (intro W hW hf; obtain ⟨z1, z2, z3, z4, z5⟩ := HCC.out W hW; go_simp; first | exact ⟨StayS.refl _ _, rfl⟩ | rfl); simp only [Act.put, List.setIfInBounds_toArray, List.set_cons_succ, List.set_cons_zero])
          apply rel_isS
          · intro W hW hf
            exact rel_callS hW (by first | rfl | (go_simp; done) | (go_simp; simp)) (by go_simp <;> first | rfl | exact ⟨rfl, rfl⟩ | exact ⟨rfl, rfl, rfl⟩) ((HUS.out W hW).mono fun e w'' h => ⟨_, h.1, h.2, rfl⟩)
          simp only [Act.put, List.setIfInBounds_toArray, List.set_cons_succ, List.set_cons_zero]
          iterate 3 (apply rel_isS; (intro W hW hf; obtain ⟨z1, z2, z3, z4, z5⟩ := HCC.out W hW; go_simp; first | exact ⟨StayS.refl _ _, rfl⟩ | rfl); simp only [Act.put, List.setIfInBounds_toArray, List.set_cons_succ, List.set_cons_zero])
          refine rel_endS ?_
          intro W hW hf
          try simp only [Act.put, List.setIfInBounds_toArray, List.set_cons_succ, List.set_cons_zero]
          refine wpList_nil ?_
          have HH6 := Lib.hid hW
          clear hW hf
          have H7 := Lib.hid (H2.out.below HH6.out)
          have HB7 := Lib.hid (HB2.out.trans (HH6.out.mono HB2.out.size))
          have HBW7 := Lib.hid (HBn.out.trans (HB7.out.mono HBn.out.size))
          have HF7 := Lib.hid ((HH6.out.block _ (lt_blk HF.out)).trans HF.out)
          have HCB7 := Lib.hid ((HCB.out.below HH6.out).more HH6.out.size)
          have x1 := T0n.out W HB7.out
          have x2 := T1n.out W HB7.out
          have x3 := T2n.out W HB7.out
          have HE : Hid (d.append k b = d.wr (nput d.fs k ⟨(d.file k).b ++ b, (d.file k).safe, (d.file k).kept⟩)) := Lib.hid (by unfold Dk.append; rw [if_neg HNN.out, if_neg (fun h => by rcases h with h | h; omega; rw [← HN.out] at h; omega)])
          have HQ : Hid (d.used + n ≤ d.size) := Lib.hid (by omega)
          have HO : Hid (d.append k b).1.Ok := Lib.hid (H.out.ok.append k b)
          by_cases h0 : d.left = 0
          · have HW := Lib.hid (fun f => write_off H7.out h0 f)
            have HE2 : Hid (d.append k b = (d, 13)) := Lib.hid (by rw [HE.out]; unfold Dk.wr; rw [if_pos h0])
            clear h0
            go_wp2_with fail
            refine (HW.out _).mono ?_
            rintro e w3 ⟨rfl, rfl⟩
            go_wp2_with fail
            go_ret
            exact ⟨by rw [HE2.out]; rfl, by rw [HE2.out]; exact H7.out, .of_below HBW7.out⟩
          · have HE2 : Hid (d.append k b = (d.tick (nput d.fs k ⟨(d.file k).b ++ b, (d.file k).safe, (d.file k).kept⟩), 0)) := Lib.hid (by rw [HE.out]; unfold Dk.wr; rw [if_neg h0])
            have HW := Lib.hid (write_on H7.out h0 hw 55 (enters_of Try.func55 (by kernel_rfl) rfl) #[.pointer (some ⟨wn.heap.size, 0, none⟩), .pointer (some ⟨w.heap.size + 1 + 1, 0, none⟩), .pointer (some ⟨w.heap.size, 0, none⟩), .pointer (some ⟨w.heap.size + 1, 0, none⟩)] (fun w' => DiskAt w' p m (d.append k b).1 ∧ Dw w w' p m) (fun w3 h3 h4 => by
              have hgf : wn.heap.size < W.heap.size := lt_blk HF7.out
              have hgp : wn.heap.size ≠ p := by have := H0n.out.lt; omega
              have hf := HV.out
              obtain ⟨_, _, e1, _, _, hsafe, hlen, _⟩ := hf
              have hbs := H7.out.bs (h4.dw m) (Nat.le_refl _) ((HBS.out.below HB7.out).more HB7.out.size)
              have hcb := H7.out.bs (h4.dw m) (Nat.le_refl _) HCB7.out
              refine (append1_at (raw_of H7.out h3 h4) (by have := H7.out.ok.count; omega) k hk wn.heap.size (w.heap.size + 1 + 1) w.heap.size (w.heap.size + 1) hgp A (d.file k).b.length cap (d.file k) rfl ((h4.block _ hgf hgp).trans HF7.out) (hbs.more h4.size) HA0.out b n capb C HN.out (hcb.more h4.size) HC0.out (by have := HQ.out; have := HFL.out.2; omega) hsafe ((World.cell?_of_block (h4.block _ (cell_lt x3) (by show w.heap.size + 1 + 1 ≠ p; have := H.out.lt; omega))).trans x3) ((World.cell?_of_block (h4.block _ (cell_lt x1) (by show w.heap.size ≠ p; have := H.out.lt; omega))).trans x1) ((World.cell?_of_block (h4.block _ (cell_lt x2) (by show w.heap.size + 1 ≠ p; have := H.out.lt; omega))).trans x2) (Nat.ne_of_lt (cell_lt (T0n.out wn (Below.refl _ _)))) (Nat.ne_of_lt (cell_lt (T1n.out wn (Below.refl _ _))))).mono ?_
              rintro e w4 ⟨rfl, h5, h6⟩
              have h7 := HO.out
              rw [HE2.out] at h7 ⊢
              exact ⟨rfl, h5.disk h7, ((Dw.of_below HBW7.out).trans (h4.dw m)).new h6 (by have := HBn.out.size; omega)⟩))
            clear h0
            go_wp2_with fail
            refine HW.out.mono ?_
            rintro e w3 ⟨rfl, h5, h6⟩
            have H5 := Lib.hid h5; have H6 := Lib.hid h6
            clear h5 h6
            go_wp2_with fail
            go_ret
            exact ⟨by rw [HE2.out]; rfl, H5.out, H6.out⟩
end Go.Proofs.Ytjbpgjfnccmdaaa
end

section
set_option linter.unusedSimpArgs false
set_option linter.unusedVariables false
namespace Go.Proofs.Ytjbpgjfnccmdaaa
open Go.RowKit

/-- a log. -/
structure Lg where
  name : Nm
  reserve : Nat
  n : Nat
  size : Nat
  broken : Bool
structure Lg.Ok (L : Lg) : Prop where
  reserve : L.reserve ≤ 67108864
  size : L.size ≤ L.reserve
  n : L.n ≤ L.size
  name : L.name.length ≤ 1000
def LogAt (w : World) (q p : Nat) (L : Lg) : Prop := w.heap[q]? = some (.cells #[.pointer (some ⟨p, 0, none⟩), .string (str L.name), .int .i64 L.reserve, .int .i64 L.n, .int .i64 L.size, .bool L.broken] 40 (0, 0))
theorem LogAt.lt {w : World} {q p : Nat} {L : Lg} (h : LogAt w q p L) : q < w.heap.size := lt_blk h
theorem LogAt.ne {w : World} {q p m : Nat} {L : Lg} {d : Dk} (h : LogAt w q p L) (hd : DiskAt w p m d) : q ≠ p ∧ q ≠ m := by
  constructor
  · rintro rfl
    have h1 := h.symm.trans hd.own
    simp at h1
  · exact hd.raw.no_map (cell_blk h 0)
/-- all but some blocks stay. -/
structure Bw (w w' : World) (S : List Nat) : Prop where
  os : w'.os = w.os
  tape : w'.tape = w.tape
  output : w'.output = w.output
  size : w.heap.size ≤ w'.heap.size
  block : ∀ k, k < w.heap.size → k ∉ S → w'.heap[k]? = w.heap[k]?
theorem Bw.refl (w : World) (S : List Nat) : Bw w w S := ⟨rfl, rfl, rfl, Nat.le_refl _, fun _ _ _ => rfl⟩
theorem Bw.trans {a b c : World} {S : List Nat} (h : Bw a b S) (h2 : Bw b c S) : Bw a c S :=
  ⟨h2.os.trans h.os, h2.tape.trans h.tape, h2.output.trans h.output, Nat.le_trans h.size h2.size, fun k hk h3 => (h2.block k (Nat.lt_of_lt_of_le hk h.size) h3).trans (h.block k hk h3)⟩
theorem Bw.of_below {w w' : World} {S : List Nat} (h : Below w.heap.size w w') : Bw w w' S := ⟨h.os, h.tape, h.output, h.size, fun k hk _ => h.block k hk⟩
theorem Bw.more {w w' : World} {S T : List Nat} (h : Bw w w' S) (hs : ∀ k ∈ S, k ∈ T) : Bw w w' T := ⟨h.os, h.tape, h.output, h.size, fun k hk h3 => h.block k hk fun h4 => h3 (hs k h4)⟩
theorem Dw.bw {w w' : World} {p m : Nat} (h : Dw w w' p m) : Bw w w' [p, m] := ⟨h.os, h.tape, h.output, h.size, fun k hk h3 => h.block k hk (by simp at h3; exact h3.1) (by simp at h3; exact h3.2)⟩
theorem Ow.bw {w w' : World} {p : Nat} (h : Ow w w' p) : Bw w w' [p] := ⟨h.os, h.tape, h.output, h.size, fun k hk h3 => h.block k hk (by simpa using h3)⟩
/-- but blocks that are new all stays. -/
theorem Bw.new {w w1 w' : World} {S T : List Nat} (h : Bw w w1 S) (h2 : Bw w1 w' T) (ht : ∀ k ∈ T, k ∈ S ∨ w.heap.size ≤ k) : Bw w w' S :=
  ⟨h2.os.trans h.os, h2.tape.trans h.tape, h2.output.trans h.output, Nat.le_trans h.size h2.size, fun k hk h3 => (h2.block k (Nat.lt_of_lt_of_le hk h.size) (fun h4 => by rcases ht k h4 with h5 | h5; exact h3 h5; omega)).trans (h.block k hk h3)⟩
theorem Bw.cell {w w' : World} {S : List Nat} (h : Bw w w' S) {b i : Nat} {v : Value} (hc : w.cell? ⟨b, i, none⟩ = some v) (hb : b ∉ S) : w'.cell? ⟨b, i, none⟩ = some v := (World.cell?_of_block (h.block b (cell_lt hc) hb)).trans hc
/-- a block that holds no byte. -/
def NoBytes (w : World) (k : Nat) : Prop := ∀ i c, w.cell? ⟨k, i, none⟩ ≠ some (.int .u8 c)
theorem Bw.bs {w w' : World} {S : List Nat} (h : Bw w w' S) (hs : ∀ k ∈ S, NoBytes w k) {B : Nat} (hB : B ≤ w.heap.size) {A : Option Addr} {l : List UInt8} (hl : Bs w B A l) : Bs w' B A l := fun j hj => by
  obtain ⟨b, off, h1, h2, h3⟩ := hl j hj
  exact ⟨b, off, h1, h2, h.cell h3 (fun h4 => hs b h4 _ _ h3)⟩
theorem DiskAt.noBytes {w : World} {p m : Nat} {d : Dk} (h : DiskAt w p m d) : ∀ k ∈ [p, m], NoBytes w k := fun k hk i c hc => by
  have := h.apart hc
  simp at hk
  rcases hk with rfl | rfl
  · exact this.1 rfl
  · exact this.2 rfl
theorem LogAt.noBytes {w : World} {q p : Nat} {L : Lg} (h : LogAt w q p L) : NoBytes w q := fun i c hc => by
  rw [cell_blk h] at hc
  match i, hc with
  | 0, hc => cases hc
  | 1, hc => cases hc
  | 2, hc => cases hc
  | 3, hc => cases hc
  | 4, hc => cases hc
  | 5, hc => cases hc
  | i + 6, hc => simp at hc
theorem DiskAt.set {w : World} {p m : Nat} {d : Dk} (h : DiskAt w p m d) {g i : Nat} {c : Value} (hc : w.cell? ⟨g, i, none⟩ = some c) (h8 : noU8 c = true) (hp : g ≠ p) (v : Value) : DiskAt (w.setCell ⟨g, i, none⟩ v) p m d := (h.raw.set hc h8 hp v).disk h.ok
def lcommit3 (L : Lg) (s : Dk × Nat) (n : Nat) : Lg × Dk × Nat := if s.2 ≠ 0 then (⟨L.name, L.reserve, L.n, L.size, true⟩, s.1, s.2) else (⟨L.name, L.reserve, L.n + 1, L.size + n, L.broken⟩, s.1, 0)
def lcommit2 (L : Lg) (s : Dk × Nat) (n : Nat) : Lg × Dk × Nat := if s.2 ≠ 0 then (⟨L.name, L.reserve, L.n, L.size, !decide (s.2 = 8)⟩, s.1, s.2) else lcommit3 L (s.1.sync L.name) n
def lcommit (L : Lg) (d : Dk) (b : List UInt8) : Lg × Dk × Nat :=
  if L.broken = true then (L, d, 14) else if 65536 < b.length then (L, d, 3) else if L.reserve < L.size + (b.length + 12) then (L, d, 12)
  else lcommit2 L (d.append L.name (frameL b)) (b.length + 12)
def CommitP (w : World) (q p m : Nat) (r : Lg × Dk × Nat) (e : Ending) (w' : World) : Prop := e = .returned (.int .i64 r.2.2) ∧ DiskAt w' p m r.2.1 ∧ LogAt w' q p r.1 ∧ Bw w w' [p, m, q]
set_option maxRecDepth 100000 in
set_option maxHeartbeats 2000000 in
theorem lnone_at {w : World} {q p : Nat} {L : Lg} (h : LogAt w q p L) : Calls Try.prog 49 #[.pointer (some ⟨q, 0, none⟩)] w fun e w' => e = .returned (.bool false) ∧ w' = w := by
  have c0 := cell_blk h 0
  simp only [List.getElem?_toArray, List.getElem?_cons_succ, List.getElem?_cons_zero] at c0
  go_enter Try.func49, Try.ntmps49
  go_wp2_with fail
  go_ret
  exact ⟨rfl, rfl⟩
set_option maxRecDepth 100000 in
set_option maxHeartbeats 4000000 in
theorem commit_at {w : World} {q p m : Nat} {L : Lg} {d : Dk} (h : DiskAt w p m d) (hl : LogAt w q p L) (hok : L.Ok) (hw : d.writes < 100000000000) (b : List UInt8) (n : Nat) (hn : n = b.length) (C : Option Addr) (capb : Nat) (hC : Bs w w.heap.size C b) (hC0 : C = none → b = []) :
    Calls Try.prog 16 #[.pointer (some ⟨q, 0, none⟩), .slice C n capb] w (CommitP w q p m (lcommit L d b)) := by
  have H := Lib.hid h; have HL := Lib.hid hl; have HN := Lib.hid hn; have HC := Lib.hid hC; have HC0 := Lib.hid hC0
  have hnm := hok.name
  have hrs := hok.reserve
  have hsz := hok.size
  have hnn := hok.n
  have HNE := Lib.hid (hl.ne h)
  have hc := fun i => cell_blk hl i
  have c0 := hc 0; have c1 := hc 1; have c2 := hc 2; have c3 := hc 3; have c4 := hc 4; have c5 := hc 5
  simp only [List.getElem?_toArray, List.getElem?_cons_succ, List.getElem?_cons_zero] at c0 c1 c2 c3 c4 c5
  clear h hl hn hC hC0 hc hok
  go_enter Try.func16, Try.ntmps16
  go_wp2_with fail
  refine (lnone_at HL.out).mono ?_
  rintro e w1 ⟨rfl, rfl⟩
  cases hb : L.broken with
  | true =>
    rw [hb] at c5
    have HE : Hid (lcommit L d b = (L, d, 14)) := Lib.hid (by unfold lcommit; rw [if_pos hb])
    clear hb
    go_wp2_with fail
    go_ret
    exact ⟨by rw [HE.out]; rfl, by rw [HE.out]; exact H.out, by rw [HE.out]; exact HL.out, .refl _ _⟩
  | false =>
    rw [hb] at c5
    have HB : Hid (¬ L.broken = true) := Lib.hid (by rw [hb]; decide)
    clear hb
    by_cases hlong : 65536 < n
    · have HE : Hid (lcommit L d b = (L, d, 3)) := Lib.hid (by unfold lcommit; rw [if_neg HB.out, if_pos (by rw [← HN.out]; exact hlong)])
      have HF := Lib.hid (frame_long n hlong C capb w1)
      go_wp2_with fail
      refine HF.out.mono ?_
      rintro e w2 ⟨rfl, rfl⟩
      go_wp2_with fail
      go_ret
      exact ⟨by rw [HE.out]; rfl, by rw [HE.out]; exact H.out, by rw [HE.out]; exact HL.out, .refl _ _⟩
    · have HLG : Hid (¬ 65536 < b.length) := Lib.hid (by rw [← HN.out]; exact hlong)
      have hF := frame_any b (by have := HLG.out; omega) C capb w1 HC.out HC0.out
      rw [← HN.out] at hF
      have HF := Lib.hid hF
      clear hF
      go_wp2_with fail
      refine HF.out.mono ?_
      rintro e w2 ⟨v, rfl, ho, hb2⟩
      obtain ⟨A2, cp, rfl, hrd, hA2, hcp⟩ := own_rd ho
      have HB2 := Lib.hid hb2; have HRD := Lib.hid hrd.bs; have HA2 := Lib.hid hA2
      have HL2 : Hid (LogAt w2 q p L) := Lib.hid ((hb2.block _ HL.out.lt).trans HL.out)
      have H2 := Lib.hid (H.out.below hb2)
      clear ho hb2 hrd hA2 hcp c0 c1 c2 c3 c4 c5
      have HCC : Hid (∀ W, Below w2.heap.size w2 W → W.cell? ⟨q, 0, none⟩ = some (.pointer (some ⟨p, 0, none⟩)) ∧ W.cell? ⟨q, 1, none⟩ = some (.string (str L.name)) ∧ W.cell? ⟨q, 2, none⟩ = some (.int .i64 L.reserve) ∧ W.cell? ⟨q, 4, none⟩ = some (.int .i64 L.size)) := Lib.hid fun W h => by
        have a := cell_blk ((h.block _ HL2.out.lt).trans HL2.out)
        exact ⟨a 0, a 1, a 2, a 4⟩
      have hwr : IntKind.i64.wrap ((L.reserve : Int) - (L.size : Int)) = (L.reserve : Int) - (L.size : Int) := wi64 _ (by omega) (by omega)
      generalize hk12 : n + 12 = n12 at *
      have HK12 := Lib.hid hk12
      have hn12 : n12 ≤ 65548 := by omega
      clear hk12
      go_upto_region 8 with (fail)
      by_cases hq : L.reserve < L.size + n12
      · have hq2 : (L.reserve : Int) - (L.size : Int) < n12 := by omega
        have HE : Hid (lcommit L d b = (L, d, 12)) := Lib.hid (by unfold lcommit; rw [if_neg HB.out, if_neg HLG.out, if_pos (by rw [← HN.out, HK12.out]; exact hq)])
        apply wp_region_relH (H := []) 12 [(Sum.inl _ : TT), (Sum.inl _ : TT), (Sum.inl _ : TT), (Sum.inl _ : TT), (Sum.inl _ : TT), (Sum.inl _ : TT), (Sum.inl _ : TT), (Sum.inl _ : TT), (Sum.inl _ : TT), (Sum.inl _ : TT), (Sum.inl _ : TT), (Sum.inl _ : TT)] (by kernel_rfl) (by kernel_rfl) (fun _ _ _ _ _ h => h) rfl
        simp only [List.take_succ_cons, List.take_zero, List.drop_succ_cons, List.drop_zero]
        iterate 12 (apply rel_isS; (intro W hW hf; obtain ⟨x1, x2, x3, x4⟩ := HCC.out W hW; go_simp; first | exact ⟨StayS.refl _ _, rfl⟩ | rfl); simp only [Act.put, List.setIfInBounds_toArray, List.set_cons_succ, List.set_cons_zero])
        refine rel_endS ?_
        intro W hW hf
        try simp only [Act.put, List.setIfInBounds_toArray, List.set_cons_succ, List.set_cons_zero]
        have H3 := Lib.hid (H2.out.below hW)
        have HL3 : Hid (LogAt W q p L) := Lib.hid ((hW.block _ HL2.out.lt).trans HL2.out)
        have HB3 := Lib.hid (HB2.out.trans (hW.mono HB2.out.size))
        clear hW hf
        go_wp2_with fail
        go_ret
        exact ⟨by rw [HE.out]; rfl, by rw [HE.out]; exact H3.out, by rw [HE.out]; exact HL3.out, .of_below HB3.out⟩
      · have hq2 : ¬ (L.reserve : Int) - (L.size : Int) < n12 := by omega
        have HQ : Hid (L.size + n12 ≤ L.reserve) := Lib.hid (by omega)
        have HE : Hid (lcommit L d b = lcommit2 L (d.append L.name (frameL b)) n12) := Lib.hid (by unfold lcommit; rw [if_neg HB.out, if_neg HLG.out, if_neg (by rw [← HN.out, HK12.out]; exact hq), ← HN.out, HK12.out])
        apply wp_region_relH (H := []) 12 [(Sum.inl _ : TT), (Sum.inl _ : TT), (Sum.inl _ : TT), (Sum.inl _ : TT), (Sum.inl _ : TT), (Sum.inl _ : TT), (Sum.inl _ : TT), (Sum.inl _ : TT), (Sum.inl _ : TT), (Sum.inl _ : TT), (Sum.inl _ : TT), (Sum.inl _ : TT)] (by kernel_rfl) (by kernel_rfl) (fun _ _ _ _ _ h => h) rfl
        simp only [List.take_succ_cons, List.take_zero, List.drop_succ_cons, List.drop_zero]
        iterate 12 (apply rel_isS; (intro W hW hf; obtain ⟨x1, x2, x3, x4⟩ := HCC.out W hW; go_simp; first | exact ⟨StayS.refl _ _, rfl⟩ | rfl); simp only [Act.put, List.setIfInBounds_toArray, List.set_cons_succ, List.set_cons_zero])
        refine rel_endS ?_
        intro W hW hf
        try simp only [Act.put, List.setIfInBounds_toArray, List.set_cons_succ, List.set_cons_zero]
        have H3 := Lib.hid (H2.out.below hW)
        have HL3 : Hid (LogAt W q p L) := Lib.hid ((hW.block _ HL2.out.lt).trans HL2.out)
        have HB3 := Lib.hid (HB2.out.trans (hW.mono HB2.out.size))
        have HRD3 := Lib.hid ((HRD.out.below hW).more hW.size)
        clear hW hf hq hq2 hwr HCC HRD H2 HL2 HB2 H HC HC0
        have HCC : Hid (∀ W2, Below W.heap.size W W2 → W2.cell? ⟨q, 0, none⟩ = some (.pointer (some ⟨p, 0, none⟩)) ∧ W2.cell? ⟨q, 1, none⟩ = some (.string (str L.name))) := Lib.hid fun W2 h => by
          have a := cell_blk ((h.block _ HL3.out.lt).trans HL3.out)
          exact ⟨a 0, a 1⟩
        go_upto_region 10 with (fail)
        rename_i W0 _
        apply wp_region_relH (H := []) 9 [(Sum.inl _ : TT), (Sum.inl _ : TT), (Sum.inl _ : TT), (Sum.inl _ : TT), (Sum.inl _ : TT), (Sum.inl _ : TT), (Sum.inl _ : TT), (Sum.inl _ : TT), (Sum.inl _ : TT)] (by kernel_rfl) (by kernel_rfl) (fun _ _ _ _ _ h => h) rfl
        simp only [List.take_succ_cons, List.take_zero, List.drop_succ_cons, List.drop_zero]
        iterate 9 (apply rel_isS; (intro W hW hf; obtain ⟨x1, x2⟩ := HCC.out W hW; go_simp; first | exact ⟨StayS.refl _ _, rfl⟩ | rfl); simp only [Act.put, List.setIfInBounds_toArray, List.set_cons_succ, List.set_cons_zero])
        refine rel_endS ?_
        intro W hW hf
        try simp only [Act.put, List.setIfInBounds_toArray, List.set_cons_succ, List.set_cons_zero]
        have H4 := Lib.hid (H3.out.below hW)
        have HL4 : Hid (LogAt W q p L) := Lib.hid ((hW.block _ HL3.out.lt).trans HL3.out)
        have HB4 := Lib.hid (HB3.out.trans (hW.mono HB3.out.size))
        have HRD4 := Lib.hid ((HRD3.out.below hW).more hW.size)
        clear hW hf HCC HRD3 H3 HL3 HB3
        have HFL : Hid (n12 = (frameL b).length) := Lib.hid (by rw [frame_length, ← HN.out, HK12.out])
        have HAP := Lib.hid (append_at H4.out (by omega) L.name (by omega) (frameL b) n12 HFL.out (by omega) A2 cp HRD4.out (fun h => List.eq_nil_of_length_eq_zero (by rw [← HFL.out]; exact HA2.out h)))
        go_wp2_with fail
        refine HAP.out.mono ?_
        rintro e w5 ⟨rfl, h5, h6⟩
        have H5 := Lib.hid h5
        have HL5 : Hid (LogAt w5 q p L) := Lib.hid ((h6.block _ HL4.out.lt HNE.out.1 HNE.out.2).trans HL4.out)
        have HB5 : Hid (Bw w1 w5 [p, m, q]) := Lib.hid ((Bw.of_below HB4.out).trans (h6.bw.more (by simp)))
        have hwr5 : (d.append L.name (frameL b)).1.writes ≤ d.writes + 1 := append_writes _ _ _
        clear h5 h6 HAP HRD4 H4 HL4 HB4
        generalize d.append L.name (frameL b) = s at *
        obtain ⟨d5, e5⟩ := s
        simp only [] at hwr5
        have HD5 : Hid (DiskAt w5 p m d5) := Lib.hid H5.out
        clear H5
        by_cases h0 : e5 = 0
        · subst h0
          have HE2 : Hid (lcommit2 L (d5, 0) n12 = lcommit3 L (d5.sync L.name) n12) := Lib.hid (by unfold lcommit2; rw [if_neg (fun h => h rfl)])
          have HCC : Hid (∀ W2, Below w5.heap.size w5 W2 → W2.cell? ⟨q, 0, none⟩ = some (.pointer (some ⟨p, 0, none⟩)) ∧ W2.cell? ⟨q, 1, none⟩ = some (.string (str L.name))) := Lib.hid fun W2 h => by
            have a := cell_blk ((h.block _ HL5.out.lt).trans HL5.out)
            exact ⟨a 0, a 1⟩
          go_upto_region 14 with (fail)
          apply wp_region_relH (H := []) 8 [(Sum.inl _ : TT), (Sum.inl _ : TT), (Sum.inl _ : TT), (Sum.inl _ : TT), (Sum.inl _ : TT), (Sum.inl _ : TT), (Sum.inl _ : TT), (Sum.inl _ : TT)] (by kernel_rfl) (by kernel_rfl) (fun _ _ _ _ _ h => h) rfl
          simp only [List.take_succ_cons, List.take_zero, List.drop_succ_cons, List.drop_zero]
          iterate 8 (apply rel_isS; (intro W hW hf; obtain ⟨x1, x2⟩ := HCC.out W hW; go_simp; first | exact ⟨StayS.refl _ _, rfl⟩ | rfl); simp only [Act.put, List.setIfInBounds_toArray, List.set_cons_succ, List.set_cons_zero])
          refine rel_endS ?_
          intro W hW hf
          try simp only [Act.put, List.setIfInBounds_toArray, List.set_cons_succ, List.set_cons_zero]
          have H6 := Lib.hid (HD5.out.below hW)
          have HL6 : Hid (LogAt W q p L) := Lib.hid ((hW.block _ HL5.out.lt).trans HL5.out)
          have HB6 := Lib.hid (HB5.out.trans (.of_below hW))
          clear hW hf HCC HD5 HL5 HB5
          have HSY := Lib.hid (sync_at H6.out (by omega) L.name (by omega))
          go_wp2_with fail
          refine HSY.out.mono ?_
          rintro e w7 ⟨rfl, h7, h8⟩
          have HL7 : Hid (LogAt w7 q p L) := Lib.hid ((h8.block _ HL6.out.lt HNE.out.1 HNE.out.2).trans HL6.out)
          have HB7 : Hid (Bw w1 w7 [p, m, q]) := Lib.hid (HB6.out.trans (h8.bw.more (by simp)))
          have H7 := Lib.hid h7
          clear h7 h8 HSY H6 HL6 HB6
          generalize d5.sync L.name = s at *
          obtain ⟨d7, e7⟩ := s
          have HD7 : Hid (DiskAt w7 p m d7) := Lib.hid H7.out
          clear H7
          have hc := fun i => cell_blk HL7.out i
          have c3 := hc 3; have c4 := hc 4; have c5 := hc 5
          simp only [List.getElem?_toArray, List.getElem?_cons_succ, List.getElem?_cons_zero] at c3 c4 c5
          have fz := fun i => free_blk HL7.out i
          clear hc
          by_cases h0 : e7 = 0
          · subst h0
            have HE3 : Hid (lcommit L d b = (⟨L.name, L.reserve, L.n + 1, L.size + n12, L.broken⟩, d7, 0)) := Lib.hid (by rw [HE.out, HE2.out]; unfold lcommit3; rw [if_neg (fun h => h rfl)])
            have hq4 := HQ.out
            have c3' := c3; have c4' := c4
            go_wp2_with fail
            go_ret
            refine ⟨by rw [HE3.out]; rfl, by rw [HE3.out]; exact (HD7.out.set c3' rfl HNE.out.1 _).set ((cell_set (by simp)).trans c4') rfl HNE.out.1 _, ?_, HB7.out.trans ((((Ow.refl w7 q).set 3 _).set 4 _).bw.more (by simp))⟩
            rw [HE3.out]
            unfold LogAt
            simp only [Int.natCast_add]
            exact set_blk (set_blk HL7.out 3 _) 4 _
          · have h1 : ((e7 : Int) != 0) = true := by simpa using h0
            have HE3 : Hid (lcommit L d b = (⟨L.name, L.reserve, L.n, L.size, true⟩, d7, e7)) := Lib.hid (by rw [HE.out, HE2.out]; unfold lcommit3; rw [if_pos h0])
            have c5' := c5
            clear h0
            go_wp2_with fail
            go_ret
            exact ⟨by rw [HE3.out]; rfl, by rw [HE3.out]; exact HD7.out.set c5' rfl HNE.out.1 _, by rw [HE3.out]; exact set_blk HL7.out 5 (.bool true), HB7.out.trans (((Ow.refl w7 q).set 5 (.bool true)).bw.more (by simp))⟩
        · have h1 : ((e5 : Int) != 0) = true := by simpa using h0
          have HE3 : Hid (lcommit L d b = (⟨L.name, L.reserve, L.n, L.size, !decide (e5 = 8)⟩, d5, e5)) := Lib.hid (by rw [HE.out]; unfold lcommit2; rw [if_pos h0])
          have h2 : ((e5 : Int) != 8) = !decide (e5 = 8) := by by_cases h : e5 = 8 <;> simp [h] <;> omega
          have hc := fun i => cell_blk HL5.out i
          have c5 := hc 5
          simp only [List.getElem?_toArray, List.getElem?_cons_succ, List.getElem?_cons_zero] at c5
          have fz := fun i => free_blk HL5.out i
          have c5' := c5
          clear h0 hc
          go_wp2_with fail
          go_ret
          exact ⟨by rw [HE3.out]; rfl, by rw [HE3.out]; exact HD5.out.set c5' rfl HNE.out.1 _, by rw [HE3.out]; exact set_blk HL5.out 5 (.bool (!decide (e5 = 8))), HB5.out.trans (((Ow.refl w5 q).set 5 (.bool (!decide (e5 = 8)))).bw.more (by simp))⟩
end Go.Proofs.Ytjbpgjfnccmdaaa
end
