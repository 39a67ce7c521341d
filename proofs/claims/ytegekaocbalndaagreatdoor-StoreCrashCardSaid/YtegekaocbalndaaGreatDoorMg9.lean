/- several texts in one: disk.Sync., disk.Rename, Append (printed by gen_disk.py)., disk.Append (printed by gen_disk.py)., disk.Remove, Cut, Rename (printed by gen_disk.py). -/
import Derived.Test.YtegekaocbalndaaGreatDoorMg6
import Derived.Shelf.Abstract
import Derived.Test.YtegekaocbalndaaGreatDoorMg8
import Derived.Test.YtegekaocbalndaaGreatDoorMg7
import Derived.Test.YtegekaocbalndaaGreatDoorMg5
section
set_option linter.unusedSimpArgs false
set_option linter.unusedVariables false
namespace Go.Proofs.YtegekaocbalndaaGreatDoor
open Go.RowKit

/-- a disk's call: its answer, the disk behind it. -/
def DiskP (w : World) (p m : Nat) (r : Dk × Nat) (e : Ending) (w' : World) : Prop := e = .returned (.int .i64 r.2) ∧ DiskAt w' p m r.1 ∧ Dw w w' p m
set_option maxRecDepth 100000 in
set_option maxHeartbeats 2000000 in
theorem sync_at {w : World} {p m : Nat} {d : Dk} (h : DiskAt w p m d) (hw : d.writes < 1000000000000) (k : Nm) (hk : k.length ≤ 9223372036854775807) :
    Calls Tryz.prog 44 #[.pointer (some ⟨p, 0, none⟩), .string (str k)] w (DiskP w p m (d.sync k)) := by
  have H := Lib.hid h
  clear h
  go_enter Tryz.func44, Tryz.ntmps44
  go_wp2_with fail
  obtain ⟨b0_, b1_, hb_⟩ := boxes2 w (.cells #[.pointer (some ⟨p, 0, none⟩)] 25) (.cells #[.string (str k)] 9)
  generalize (w.alloc (.cells #[.pointer (some ⟨p, 0, none⟩)] 25)).alloc (.cells #[.string (str k)] 9) = w0 at *
  have T0b : Hid (∀ W, Below w0.heap.size w0 W → W.heap[w.heap.size]? = some (.cells #[.pointer (some ⟨p, 0, none⟩)] 25 (0, 0))) := Lib.hid (fun W hW => (hW.block _ (lt_blk b0_)).trans b0_)
  have T0 : Hid (∀ W, Below w0.heap.size w0 W → W.cell? ⟨w.heap.size, 0, none⟩ = some (.pointer (some ⟨p, 0, none⟩))) := Lib.hid (fun W hW => by have e := (hW.block _ (lt_blk b0_)).trans b0_; exact by rw [cell_blk e]; rfl)
  have T1b : Hid (∀ W, Below w0.heap.size w0 W → W.heap[w.heap.size + 1]? = some (.cells #[.string (str k)] 9 (0, 0))) := Lib.hid (fun W hW => (hW.block _ (lt_blk b1_)).trans b1_)
  have T1 : Hid (∀ W, Below w0.heap.size w0 W → W.cell? ⟨w.heap.size + 1, 0, none⟩ = some (.string (str k))) := Lib.hid (fun W hW => by have e := (hW.block _ (lt_blk b1_)).trans b1_; exact by rw [cell_blk e]; rfl)
  have HB := Lib.hid hb_
  clear hb_ b0_ b1_
  have H0 := Lib.hid (H.out.below HB.out)
  refine (none_at H0.out).mono ?_
  rintro e w1 ⟨rfl, rfl⟩
  obtain ⟨A, cap, hv, hl1, hl2, hbs, hA0, hcap⟩ := look_file H0.out k hk
  have HV := Lib.hid hv; have HL := Lib.hid hl1; have HBS := Lib.hid hbs; have HA0 := Lib.hid hA0; have HCP := Lib.hid hcap
  clear hv hl1 hl2 hbs hA0 hcap
  have x1 := T0.out w1 (Below.refl _ _)
  have x2 := T1.out w1 (Below.refl _ _)
  have x3 := cell_blk H0.out.own 1
  simp only [List.getElem?_toArray, List.getElem?_cons_succ, List.getElem?_cons_zero] at x3
  have y1 := fun o => T0.out (w1.alloc o) (below_alloc w1 o)
  have y2 := fun o => T1.out (w1.alloc o) (below_alloc w1 o)
  have y3 : ∀ o, (w1.alloc o).cell? ⟨p, 1, none⟩ = some (.map (some m)) := fun o => by have := cell_blk (H0.out.below (below_alloc w1 o)).own 1; exact this
  have l1 := HL.out w1.drew rfl
  have l2 := fun o => HL.out (w1.alloc o).drew (Below.heap_alloc _ _ _ H0.out.ltm)
  go_wp2_with fail
  go_region
  obtain ⟨hfb, hbl⟩ := boxes1 w1 (.cells #[.slice A (d.file k).b.length cap, .int .i64 (d.file k).safe, .bool (d.file k).kept] 78)
  have hfb2 : (w1.alloc (.cells #[.slice A (d.file k).b.length cap, .int .i64 (d.file k).safe, .bool (d.file k).kept] 78)).drew.heap[w1.heap.size]? = _ := hfb
  have hbl2 := hbl.drew
  generalize (w1.alloc (.cells #[.slice A (d.file k).b.length cap, .int .i64 (d.file k).safe, .bool (d.file k).kept] 78)).drew = w2 at *
  have HF := Lib.hid hfb2; have HB2 := Lib.hid hbl2
  clear x1 x2 x3 y1 y2 y3 l1 l2 hfb hbl hfb2 hbl2
  have H2 := Lib.hid (H0.out.below HB2.out)
  have x1 := T0.out w2 HB2.out
  have x2 := T1.out w2 HB2.out
  cases hh : d.has k with
  | false =>
    have HE : Hid (d.sync k = (d, 6)) := Lib.hid (by unfold Dk.sync; rw [if_pos hh])
    clear hh
    go_wp2_with fail
    go_ret
    exact ⟨by rw [HE.out]; rfl, by rw [HE.out]; exact H2.out, .of_below (HB.out.trans (HB2.out.mono HB.out.size))⟩
  | true =>
    have HE : Hid (d.sync k = d.wr (nput d.fs k ⟨(d.file k).b, (d.file k).b.length, true⟩)) := Lib.hid (by unfold Dk.sync; rw [if_neg (by rw [hh]; decide)])
    have HO : Hid (d.sync k).1.Ok := Lib.hid (H.out.ok.sync k)
    clear hh
    by_cases h0 : d.left = 0
    · have HW := Lib.hid (fun f => write_off H2.out h0 f)
      have HE2 : Hid (d.sync k = (d, 13)) := Lib.hid (by rw [HE.out]; unfold Dk.wr; rw [if_pos h0])
      clear h0
      go_wp2_with fail
      refine (HW.out _).mono ?_
      rintro e w3 ⟨rfl, rfl⟩
      go_wp2_with fail
      go_ret
      exact ⟨by rw [HE2.out]; rfl, by rw [HE2.out]; exact H2.out, .of_below (HB.out.trans (HB2.out.mono HB.out.size))⟩
    · have HE2 : Hid (d.sync k = (d.tick (nput d.fs k ⟨(d.file k).b, (d.file k).b.length, true⟩), 0)) := Lib.hid (by rw [HE.out]; unfold Dk.wr; rw [if_neg h0])
      have HW := Lib.hid (write_on H2.out h0 hw 74 (enters_of Tryz.func74 (by kernel_rfl) rfl) #[.pointer (some ⟨w1.heap.size, 0, none⟩), .pointer (some ⟨w.heap.size, 0, none⟩), .pointer (some ⟨w.heap.size + 1, 0, none⟩)] (fun w' => DiskAt w' p m (d.sync k).1 ∧ Dw w w' p m) (fun w3 h3 h4 => by
        have hgf : w1.heap.size < w2.heap.size := lt_blk HF.out
        have hgp : w1.heap.size ≠ p := by have := H0.out.lt; omega
        have hf := HV.out
        obtain ⟨_, _, e1, _, _, _, hlen, _⟩ := hf
        have hbs := H2.out.bs (h4.dw m) (Nat.le_refl _) ((HBS.out.below HB2.out).more HB2.out.size)
        refine (sync1_at (raw_of H2.out h3 h4) (by have := H2.out.ok.count; omega) k hk w1.heap.size w.heap.size (w.heap.size + 1) hgp A (d.file k).b.length cap (d.file k) rfl ((h4.block _ hgf hgp).trans HF.out) ⟨A, cap, rfl, hbs.more h4.size, HCP.out, Nat.le_refl _, hlen, HA0.out⟩ ((World.cell?_of_block (h4.block _ (cell_lt x1) (by show w.heap.size ≠ p; have := H.out.lt; omega))).trans x1) ((World.cell?_of_block (h4.block _ (cell_lt x2) (by show w.heap.size + 1 ≠ p; have := H.out.lt; omega))).trans x2) (Nat.ne_of_lt (cell_lt (T0.out w1 (Below.refl _ _)))) (Nat.ne_of_lt (cell_lt (T1.out w1 (Below.refl _ _))))).mono ?_
        rintro e w4 ⟨rfl, h5, h6⟩
        have h7 := HO.out
        rw [HE2.out] at h7 ⊢
        exact ⟨rfl, h5.disk h7, ((Dw.of_below (HB.out.trans (HB2.out.mono HB.out.size))).trans (h4.dw m)).new h6 (by have := HB.out.size; omega)⟩))
      clear h0
      go_wp2_with fail
      refine HW.out.mono ?_
      rintro e w3 ⟨rfl, h5, h6⟩
      have H5 := Lib.hid h5; have H6 := Lib.hid h6
      clear h5 h6
      go_wp2_with fail
      go_ret
      exact ⟨by rw [HE2.out]; rfl, H5.out, H6.out⟩
end Go.Proofs.YtegekaocbalndaaGreatDoor
end

section
set_option linter.unusedSimpArgs false
set_option linter.unusedVariables false
namespace Go.Proofs.YtegekaocbalndaaGreatDoor
open Go.RowKit

set_option maxRecDepth 100000 in
set_option maxHeartbeats 2000000 in
theorem rename_at {w : World} {p m : Nat} {d : Dk} (h : DiskAt w p m d) (hw : d.writes < 1000000000000) (k : Nm) (hk : k.length ≤ 9223372036854775807) (k' : Nm) (hk' : k'.length ≤ 9223372036854775807) :
    Calls Tryz.prog 46 #[.pointer (some ⟨p, 0, none⟩), .string (str k), .string (str k')] w (DiskP w p m (d.rename k k')) := by
  have H := Lib.hid h
  clear h
  go_enter Tryz.func46, Tryz.ntmps46
  go_wp2_with fail
  obtain ⟨b0_, b1_, b2_, hb_⟩ := boxes3 w (.cells #[.pointer (some ⟨p, 0, none⟩)] 25) (.cells #[.string (str k)] 9) (.cells #[.string (str k')] 9)
  generalize ((w.alloc (.cells #[.pointer (some ⟨p, 0, none⟩)] 25)).alloc (.cells #[.string (str k)] 9)).alloc (.cells #[.string (str k')] 9) = w0 at *
  have T0b : Hid (∀ W, Below w0.heap.size w0 W → W.heap[w.heap.size]? = some (.cells #[.pointer (some ⟨p, 0, none⟩)] 25 (0, 0))) := Lib.hid (fun W hW => (hW.block _ (lt_blk b0_)).trans b0_)
  have T0 : Hid (∀ W, Below w0.heap.size w0 W → W.cell? ⟨w.heap.size, 0, none⟩ = some (.pointer (some ⟨p, 0, none⟩))) := Lib.hid (fun W hW => by have e := (hW.block _ (lt_blk b0_)).trans b0_; exact by rw [cell_blk e]; rfl)
  have T1b : Hid (∀ W, Below w0.heap.size w0 W → W.heap[w.heap.size + 1]? = some (.cells #[.string (str k)] 9 (0, 0))) := Lib.hid (fun W hW => (hW.block _ (lt_blk b1_)).trans b1_)
  have T1 : Hid (∀ W, Below w0.heap.size w0 W → W.cell? ⟨w.heap.size + 1, 0, none⟩ = some (.string (str k))) := Lib.hid (fun W hW => by have e := (hW.block _ (lt_blk b1_)).trans b1_; exact by rw [cell_blk e]; rfl)
  have T2b : Hid (∀ W, Below w0.heap.size w0 W → W.heap[w.heap.size + 1 + 1]? = some (.cells #[.string (str k')] 9 (0, 0))) := Lib.hid (fun W hW => (hW.block _ (lt_blk b2_)).trans b2_)
  have T2 : Hid (∀ W, Below w0.heap.size w0 W → W.cell? ⟨w.heap.size + 1 + 1, 0, none⟩ = some (.string (str k'))) := Lib.hid (fun W hW => by have e := (hW.block _ (lt_blk b2_)).trans b2_; exact by rw [cell_blk e]; rfl)
  have HB := Lib.hid hb_
  clear hb_ b0_ b1_ b2_
  have H0 := Lib.hid (H.out.below HB.out)
  refine (none_at H0.out).mono ?_
  rintro e w1 ⟨rfl, rfl⟩
  have x1 := T0.out w1 (Below.refl _ _)
  have xn := T2.out w1 (Below.refl _ _)
  have HNM := Lib.hid (named_any k' (by omega) w1)
  go_wp2_with fail
  refine HNM.out.mono ?_
  rintro e wn ⟨rfl, hbn⟩
  have T0n := Lib.hid (fun W (hW : Below wn.heap.size wn W) => T0.out W (hbn.trans (hW.mono hbn.size)))
  have T1n := Lib.hid (fun W (hW : Below wn.heap.size wn W) => T1.out W (hbn.trans (hW.mono hbn.size)))
  have T2n := Lib.hid (fun W (hW : Below wn.heap.size wn W) => T2.out W (hbn.trans (hW.mono hbn.size)))
  have HBn := Lib.hid (HB.out.trans (hbn.mono HB.out.size))
  have H0n := Lib.hid (H0.out.below hbn)
  clear hbn HNM x1 xn HB H0 T0 T1 T2
  cases hnn : nameOk k' with
  | false =>
    have HE : Hid (d.rename k k' = (d, 2)) := Lib.hid (by unfold Dk.rename; rw [if_pos hnn])
    clear hnn
    go_wp2_with fail
    go_ret
    exact ⟨by rw [HE.out]; rfl, by rw [HE.out]; exact H0n.out, .of_below HBn.out⟩
  | true =>
    have HNN : Hid (¬ nameOk k' = false) := Lib.hid (by rw [hnn]; decide)
    clear hnn
    obtain ⟨A, cap, hv, hl1, hl2, hbs, hA0, hcap⟩ := look_file H0n.out k hk
    have HV := Lib.hid hv; have HL := Lib.hid hl1; have HBS := Lib.hid hbs; have HA0 := Lib.hid hA0; have HCP := Lib.hid hcap
    clear hv hl1 hl2 hbs hA0 hcap
    have x1 := T0n.out wn (Below.refl _ _)
    have x2 := T1n.out wn (Below.refl _ _)
    have x3 := cell_blk H0n.out.own 1
    simp only [List.getElem?_toArray, List.getElem?_cons_succ, List.getElem?_cons_zero] at x3
    have y1 := fun o => T0n.out (wn.alloc o) (below_alloc wn o)
    have y2 := fun o => T1n.out (wn.alloc o) (below_alloc wn o)
    have y3 : ∀ o, (wn.alloc o).cell? ⟨p, 1, none⟩ = some (.map (some m)) := fun o => by have := cell_blk (H0n.out.below (below_alloc wn o)).own 1; exact this
    have l1 := HL.out wn.drew rfl
    have l2 := fun o => HL.out (wn.alloc o).drew (Below.heap_alloc _ _ _ H0n.out.ltm)
    go_wp2_with fail
    go_region
    obtain ⟨hfb, hbl⟩ := boxes1 wn (.cells #[.slice A (d.file k).b.length cap, .int .i64 (d.file k).safe, .bool (d.file k).kept] 78)
    have hfb2 : (wn.alloc (.cells #[.slice A (d.file k).b.length cap, .int .i64 (d.file k).safe, .bool (d.file k).kept] 78)).drew.heap[wn.heap.size]? = _ := hfb
    have hbl2 := hbl.drew
    generalize (wn.alloc (.cells #[.slice A (d.file k).b.length cap, .int .i64 (d.file k).safe, .bool (d.file k).kept] 78)).drew = w2 at *
    have HF := Lib.hid hfb2; have HB2 := Lib.hid hbl2
    clear x1 x2 x3 y1 y2 y3 l1 l2 hfb hbl hfb2 hbl2
    have H2 := Lib.hid (H0n.out.below HB2.out)
    have HBW := Lib.hid (HBn.out.trans (HB2.out.mono HBn.out.size))
    have x1 := T0n.out w2 HB2.out
    have x2 := T1n.out w2 HB2.out
    have x3 := T2n.out w2 HB2.out
    have hfc := fun i => cell_blk HF.out i
    have f0 := hfc 0
    have f1 := hfc 1
    simp only [List.getElem?_toArray, List.getElem?_cons_succ, List.getElem?_cons_zero] at f0 f1
    clear hfc
    have HFL := Lib.hid (H.out.ok.file k)
    cases hh : d.has k with
    | false =>
      have HE : Hid (d.rename k k' = (d, 6)) := Lib.hid (by unfold Dk.rename; rw [if_neg HNN.out, if_pos hh])
      go_wp2_with fail
      go_ret
      exact ⟨by rw [HE.out]; rfl, by rw [HE.out]; exact H2.out, .of_below HBW.out⟩
    | true =>
      have HH : Hid (¬ d.has k = false) := Lib.hid (by rw [hh]; decide)
      clear hh
      by_cases hs : (d.file k).safe < (d.file k).b.length
      · have hs2 : ((d.file k).safe : Int) < (d.file k).b.length := by omega
        have HE : Hid (d.rename k k' = (d, 10)) := Lib.hid (by unfold Dk.rename; rw [if_neg HNN.out, if_neg HH.out, if_pos hs])
        go_wp2_with fail
        go_ret
        exact ⟨by rw [HE.out]; rfl, by rw [HE.out]; exact H2.out, .of_below HBW.out⟩
      · have hs2 : ¬ ((d.file k).safe : Int) < (d.file k).b.length := by omega
        have HE : Hid (d.rename k k' = d.wr (nput (ndel d.fs k) k' ⟨(d.file k).b, (d.file k).safe, true⟩)) := Lib.hid (by unfold Dk.rename; rw [if_neg HNN.out, if_neg HH.out, if_neg hs])
        have HO : Hid (d.rename k k').1.Ok := Lib.hid (H.out.ok.rename k k')
        by_cases h0 : d.left = 0
        · have HW := Lib.hid (fun f => write_off H2.out h0 f)
          have HE2 : Hid (d.rename k k' = (d, 13)) := Lib.hid (by rw [HE.out]; unfold Dk.wr; rw [if_pos h0])
          clear h0
          go_wp2_with fail
          refine (HW.out _).mono ?_
          rintro e w3 ⟨rfl, rfl⟩
          go_wp2_with fail
          go_ret
          exact ⟨by rw [HE2.out]; rfl, by rw [HE2.out]; exact H2.out, .of_below HBW.out⟩
        · have HE2 : Hid (d.rename k k' = (d.tick (nput (ndel d.fs k) k' ⟨(d.file k).b, (d.file k).safe, true⟩), 0)) := Lib.hid (by rw [HE.out]; unfold Dk.wr; rw [if_neg h0])
          have HW := Lib.hid (write_on H2.out h0 hw 75 (enters_of Tryz.func75 (by kernel_rfl) rfl) #[.pointer (some ⟨w.heap.size, 0, none⟩), .pointer (some ⟨w.heap.size + 1, 0, none⟩), .pointer (some ⟨wn.heap.size, 0, none⟩), .pointer (some ⟨w.heap.size + 1 + 1, 0, none⟩)] (fun w' => DiskAt w' p m (d.rename k k').1 ∧ Dw w w' p m) (fun w3 h3 h4 => by
            have hgf : wn.heap.size < w2.heap.size := lt_blk HF.out
            have hgp : wn.heap.size ≠ p := by have := H0n.out.lt; omega
            have hf := HV.out
            obtain ⟨_, _, e1, _, _, hsafe, hlen, _⟩ := hf
            have hbs := H2.out.bs (h4.dw m) (Nat.le_refl _) ((HBS.out.below HB2.out).more HB2.out.size)
            refine (rename1_at (raw_of H2.out h3 h4) (by have := H2.out.ok.count; omega) k k' hk hk' wn.heap.size w.heap.size (w.heap.size + 1) (w.heap.size + 1 + 1) hgp A (d.file k).b.length cap (d.file k) ((h4.block _ hgf hgp).trans HF.out) ⟨A, cap, rfl, hbs.more h4.size, HCP.out, hsafe, hlen, HA0.out⟩ ((World.cell?_of_block (h4.block _ (cell_lt x1) (by show w.heap.size ≠ p; have := H.out.lt; omega))).trans x1) ((World.cell?_of_block (h4.block _ (cell_lt x2) (by show w.heap.size + 1 ≠ p; have := H.out.lt; omega))).trans x2) ((World.cell?_of_block (h4.block _ (cell_lt x3) (by show w.heap.size + 1 + 1 ≠ p; have := H.out.lt; omega))).trans x3) (Nat.ne_of_lt (cell_lt (T0n.out wn (Below.refl _ _)))) (Nat.ne_of_lt (cell_lt (T2n.out wn (Below.refl _ _))))).mono ?_
            rintro e w4 ⟨rfl, h5, h6⟩
            have h7 := HO.out
            rw [HE2.out] at h7 ⊢
            exact ⟨rfl, h5.disk h7, ((Dw.of_below HBW.out).trans (h4.dw m)).new h6 (by have := HBn.out.size; omega)⟩))
          clear h0
          go_wp2_with fail
          refine HW.out.mono ?_
          rintro e w3 ⟨rfl, h5, h6⟩
          have H5 := Lib.hid h5; have H6 := Lib.hid h6
          clear h5 h6
          go_wp2_with fail
          go_ret
          exact ⟨by rw [HE2.out]; rfl, H5.out, H6.out⟩
end Go.Proofs.YtegekaocbalndaaGreatDoor
end

section
set_option linter.unusedSimpArgs false
set_option linter.unusedVariables false
namespace Go.Proofs.YtegekaocbalndaaGreatDoor
open Go.RowKit

set_option maxRecDepth 100000 in
set_option maxHeartbeats 2000000 in
theorem append_at {w : World} {p m : Nat} {d : Dk} (h : DiskAt w p m d) (hw : d.writes < 1000000000000) (k : Nm) (hk : k.length ≤ 9223372036854775807) (b : List UInt8) (n : Nat) (hn : n = b.length) (hn2 : n ≤ 100000000) (C : Option Addr) (capb : Nat) (hC : Bs w w.heap.size C b) (hC0 : C = none → b = []) :
    Calls Tryz.prog 42 #[.pointer (some ⟨p, 0, none⟩), .string (str k), .slice C n capb] w (DiskP w p m (d.append k b)) := by
  have H := Lib.hid h
  have HN := Lib.hid hn; have HC := Lib.hid hC; have HC0 := Lib.hid hC0
  clear h hn hC hC0
  go_enter Tryz.func42, Tryz.ntmps42
  go_wp2_with fail
  obtain ⟨b0_, b1_, b2_, hb_⟩ := boxes3 w (.cells #[.pointer (some ⟨p, 0, none⟩)] 25) (.cells #[.string (str k)] 9) (.cells #[.slice C n capb] 30)
  generalize ((w.alloc (.cells #[.pointer (some ⟨p, 0, none⟩)] 25)).alloc (.cells #[.string (str k)] 9)).alloc (.cells #[.slice C n capb] 30) = w0 at *
  have T0b : Hid (∀ W, Below w0.heap.size w0 W → W.heap[w.heap.size]? = some (.cells #[.pointer (some ⟨p, 0, none⟩)] 25 (0, 0))) := Lib.hid (fun W hW => (hW.block _ (lt_blk b0_)).trans b0_)
  have T0 : Hid (∀ W, Below w0.heap.size w0 W → W.cell? ⟨w.heap.size, 0, none⟩ = some (.pointer (some ⟨p, 0, none⟩))) := Lib.hid (fun W hW => by have e := (hW.block _ (lt_blk b0_)).trans b0_; exact by rw [cell_blk e]; rfl)
  have T1b : Hid (∀ W, Below w0.heap.size w0 W → W.heap[w.heap.size + 1]? = some (.cells #[.string (str k)] 9 (0, 0))) := Lib.hid (fun W hW => (hW.block _ (lt_blk b1_)).trans b1_)
  have T1 : Hid (∀ W, Below w0.heap.size w0 W → W.cell? ⟨w.heap.size + 1, 0, none⟩ = some (.string (str k))) := Lib.hid (fun W hW => by have e := (hW.block _ (lt_blk b1_)).trans b1_; exact by rw [cell_blk e]; rfl)
  have T2b : Hid (∀ W, Below w0.heap.size w0 W → W.heap[w.heap.size + 1 + 1]? = some (.cells #[.slice C n capb] 30 (0, 0))) := Lib.hid (fun W hW => (hW.block _ (lt_blk b2_)).trans b2_)
  have T2 : Hid (∀ W, Below w0.heap.size w0 W → W.cell? ⟨w.heap.size + 1 + 1, 0, none⟩ = some (.slice C n capb)) := Lib.hid (fun W hW => by have e := (hW.block _ (lt_blk b2_)).trans b2_; exact by rw [cell_blk e]; rfl)
  have HB := Lib.hid hb_
  clear hb_ b0_ b1_ b2_
  have H0 := Lib.hid (H.out.below HB.out)
  refine (none_at H0.out).mono ?_
  rintro e w1 ⟨rfl, rfl⟩
  have x1 := T0.out w1 (Below.refl _ _)
  have xn := T1.out w1 (Below.refl _ _)
  have HNM := Lib.hid (named_any k (by omega) w1)
  go_wp2_with fail
  refine HNM.out.mono ?_
  rintro e wn ⟨rfl, hbn⟩
  have T0n := Lib.hid (fun W (hW : Below wn.heap.size wn W) => T0.out W (hbn.trans (hW.mono hbn.size)))
  have T1n := Lib.hid (fun W (hW : Below wn.heap.size wn W) => T1.out W (hbn.trans (hW.mono hbn.size)))
  have T2n := Lib.hid (fun W (hW : Below wn.heap.size wn W) => T2.out W (hbn.trans (hW.mono hbn.size)))
  have HBn := Lib.hid (HB.out.trans (hbn.mono HB.out.size))
  have H0n := Lib.hid (H0.out.below hbn)
  clear hbn HNM x1 xn HB H0 T0 T1 T2
  cases hnn : nameOk k with
  | false =>
    have HE : Hid (d.append k b = (d, 2)) := Lib.hid (by unfold Dk.append; rw [if_pos hnn])
    clear hnn
    go_wp2_with fail
    go_ret
    exact ⟨by rw [HE.out]; rfl, by rw [HE.out]; exact H0n.out, .of_below HBn.out⟩
  | true =>
    have HNN : Hid (¬ nameOk k = false) := Lib.hid (by rw [hnn]; decide)
    clear hnn
    obtain ⟨A, cap, hv, hl1, hl2, hbs, hA0, hcap⟩ := look_file H0n.out k hk
    have HV := Lib.hid hv; have HL := Lib.hid hl1; have HBS := Lib.hid hbs; have HA0 := Lib.hid hA0; have HCP := Lib.hid hcap
    clear hv hl1 hl2 hbs hA0 hcap
    have x1 := T0n.out wn (Below.refl _ _)
    have x2 := T1n.out wn (Below.refl _ _)
    have x3 := cell_blk H0n.out.own 1
    simp only [List.getElem?_toArray, List.getElem?_cons_succ, List.getElem?_cons_zero] at x3
    have y1 := fun o => T0n.out (wn.alloc o) (below_alloc wn o)
    have y2 := fun o => T1n.out (wn.alloc o) (below_alloc wn o)
    have y3 : ∀ o, (wn.alloc o).cell? ⟨p, 1, none⟩ = some (.map (some m)) := fun o => by have := cell_blk (H0n.out.below (below_alloc wn o)).own 1; exact this
    have l1 := HL.out wn.drew rfl
    have l2 := fun o => HL.out (wn.alloc o).drew (Below.heap_alloc _ _ _ H0n.out.ltm)
    go_wp2_with fail
    go_region
    obtain ⟨hfb, hbl⟩ := boxes1 wn (.cells #[.slice A (d.file k).b.length cap, .int .i64 (d.file k).safe, .bool (d.file k).kept] 78)
    have hfb2 : (wn.alloc (.cells #[.slice A (d.file k).b.length cap, .int .i64 (d.file k).safe, .bool (d.file k).kept] 78)).drew.heap[wn.heap.size]? = _ := hfb
    have hbl2 := hbl.drew
    generalize (wn.alloc (.cells #[.slice A (d.file k).b.length cap, .int .i64 (d.file k).safe, .bool (d.file k).kept] 78)).drew = w2 at *
    have HF := Lib.hid hfb2; have HB2 := Lib.hid hbl2
    clear x1 x2 x3 y1 y2 y3 l1 l2 hfb hbl hfb2 hbl2
    have H2 := Lib.hid (H0n.out.below HB2.out)
    have HBW := Lib.hid (HBn.out.trans (HB2.out.mono HBn.out.size))
    have x1 := T0n.out w2 HB2.out
    have x2 := T1n.out w2 HB2.out
    have x3 := T2n.out w2 HB2.out
    obtain ⟨vs0, hm0, ha0⟩ := H2.out.files
    have hlen0 : vs0.length = d.fs.length := ha0.length
    have HCC : Hid (∀ W, Below w2.heap.size w2 W → W.cell? ⟨w.heap.size, 0, none⟩ = some (.pointer (some ⟨p, 0, none⟩)) ∧ W.cell? ⟨w.heap.size + 1 + 1, 0, none⟩ = some (.slice C n capb) ∧ W.cell? ⟨p, 0, none⟩ = some (.int .i64 d.size) ∧ W.cell? ⟨p, 1, none⟩ = some (.map (some m)) ∧ ∀ ty, (Builtin.len_ #[UM] ty #[.map (some m)]).run Tryz.prog W = .ok (.int .i64 d.fs.length) W) := Lib.hid fun W h => by
      have a0 := cell_blk ((h.block _ H2.out.lt).trans H2.out.own) 0
      have a1 := cell_blk ((h.block _ H2.out.lt).trans H2.out.own) 1
      refine ⟨T0n.out W (HB2.out.trans (h.mono HB2.out.size)), T2n.out W (HB2.out.trans (h.mono HB2.out.size)), a0, a1, fun ty => ?_⟩
      have h1 := (hm0.at (h.block m hm0.lt)).len Tryz.underlying51 ty
      rw [kd_size, hlen0] at h1
      exact h1
    have HUS := Lib.hid (fun W (hW : Below w2.heap.size w2 W) => used_at (H2.out.below hW))
    clear hm0 ha0 hlen0
    have HFL := Lib.hid (H.out.ok.file k)
    have hsz := H.out.ok.size
    have hus := H.out.ok.used
    have hct := H.out.ok.count
    have hwr : IntKind.i64.wrap ((d.size : Int) - (d.used : Int)) = (d.size : Int) - (d.used : Int) := wi64 _ (by omega) (by omega)
    have HCB : Hid (Bs w2 w2.heap.size C b) := Lib.hid ((HC.out.below HBW.out).more HBW.out.size)
    cases hh : d.has k with
    | true =>
      by_cases hfull : d.size < d.used + n
      · have hq : (d.size : Int) - d.used < n := by omega
        go_upto_region 6 with (fail)
        apply wp_region_relH (H := []) 22 [(Sum.inl _ : TT), (Sum.inl _ : TT), (Sum.inl _ : TT), (Sum.inl _ : TT), (Sum.inl _ : TT), (Sum.inl _ : TT), (Sum.inl _ : TT), (Sum.inl _ : TT), (Sum.inl _ : TT), (Sum.inl _ : TT), (Sum.inl _ : TT), (Sum.inl _ : TT), (Sum.inl _ : TT), (Sum.inl _ : TT), (Sum.inl _ : TT), (Sum.inl _ : TT), (Sum.inl _ : TT), (Sum.inl _ : TT), (Sum.inl _ : TT), (Sum.inl _ : TT), (Sum.inl _ : TT), (Sum.inl _ : TT)] (by kernel_rfl) (by kernel_rfl) (fun _ _ _ _ _ h => h) rfl
        simp only [List.take_succ_cons, List.take_zero, List.drop_succ_cons, List.drop_zero]
        iterate 18 (apply rel_isS; (intro W hW hf; obtain ⟨z1, z2, z3, z4, z5⟩ := HCC.out W hW; go_simp; first | exact ⟨StayS.refl _ _, rfl⟩ | rfl); simp only [Act.put, List.setIfInBounds_toArray, List.set_cons_succ, List.set_cons_zero])
        apply rel_isS
        · intro W hW hf
          exact rel_callS hW (by first | rfl | (go_simp; done) | (go_simp; simp)) (by go_simp <;> first | rfl | exact ⟨rfl, rfl⟩ | exact ⟨rfl, rfl, rfl⟩) ((HUS.out W hW).mono fun e w'' h => ⟨_, h.1, h.2, rfl⟩)
        simp only [Act.put, List.setIfInBounds_toArray, List.set_cons_succ, List.set_cons_zero]
        iterate 3 (apply rel_isS; (intro W hW hf; obtain ⟨z1, z2, z3, z4, z5⟩ := HCC.out W hW; go_simp; first | exact ⟨StayS.refl _ _, rfl⟩ | rfl); simp only [Act.put, List.setIfInBounds_toArray, List.set_cons_succ, List.set_cons_zero])
        refine rel_endS ?_
        intro W hW hf
        try simp only [Act.put, List.setIfInBounds_toArray, List.set_cons_succ, List.set_cons_zero]
        refine wpList_nil ?_
        have HH6 := Lib.hid hW
        clear hW hf
        have H7 := Lib.hid (H2.out.below HH6.out)
        have HB7 := Lib.hid (HB2.out.trans (HH6.out.mono HB2.out.size))
        have HBW7 := Lib.hid (HBn.out.trans (HB7.out.mono HBn.out.size))
        have HF7 := Lib.hid ((HH6.out.block _ (lt_blk HF.out)).trans HF.out)
        have HCB7 := Lib.hid ((HCB.out.below HH6.out).more HH6.out.size)
        have x1 := T0n.out W HB7.out
        have x2 := T1n.out W HB7.out
        have x3 := T2n.out W HB7.out
        have HE : Hid (d.append k b = (d, 8)) := Lib.hid (by unfold Dk.append; rw [if_neg HNN.out, if_pos (.inr (by rw [← HN.out]; exact hfull))])
        go_wp2_with fail
        go_ret
        exact ⟨by rw [HE.out]; rfl, by rw [HE.out]; exact H7.out, .of_below HBW7.out⟩
      · have hq : ¬ (d.size : Int) - d.used < n := by omega
        go_upto_region 6 with (fail)
        apply wp_region_relH (H := []) 22 [(Sum.inl _ : TT), (Sum.inl _ : TT), (Sum.inl _ : TT), (Sum.inl _ : TT), (Sum.inl _ : TT), (Sum.inl _ : TT), (Sum.inl _ : TT), (Sum.inl _ : TT), (Sum.inl _ : TT), (Sum.inl _ : TT), (Sum.inl _ : TT), (Sum.inl _ : TT), (Sum.inl _ : TT), (Sum.inl _ : TT), (Sum.inl _ : TT), (Sum.inl _ : TT), (Sum.inl _ : TT), (Sum.inl _ : TT), (Sum.inl _ : TT), (Sum.inl _ : TT), (Sum.inl _ : TT), (Sum.inl _ : TT)] (by kernel_rfl) (by kernel_rfl) (fun _ _ _ _ _ h => h) rfl
        simp only [List.take_succ_cons, List.take_zero, List.drop_succ_cons, List.drop_zero]
        iterate 18 (apply rel_isS; (intro W hW hf; obtain ⟨z1, z2, z3, z4, z5⟩ := HCC.out W hW; go_simp; first | exact ⟨StayS.refl _ _, rfl⟩ | rfl); simp only [Act.put, List.setIfInBounds_toArray, List.set_cons_succ, List.set_cons_zero])
        apply rel_isS
        · intro W hW hf
          exact rel_callS hW (by first | rfl | (go_simp; done) | (go_simp; simp)) (by go_simp <;> first | rfl | exact ⟨rfl, rfl⟩ | exact ⟨rfl, rfl, rfl⟩) ((HUS.out W hW).mono fun e w'' h => ⟨_, h.1, h.2, rfl⟩)
        simp only [Act.put, List.setIfInBounds_toArray, List.set_cons_succ, List.set_cons_zero]
        iterate 3 (apply rel_isS; (intro W hW hf; obtain ⟨z1, z2, z3, z4, z5⟩ := HCC.out W hW; go_simp; first | exact ⟨StayS.refl _ _, rfl⟩ | rfl); simp only [Act.put, List.setIfInBounds_toArray, List.set_cons_succ, List.set_cons_zero])
        refine rel_endS ?_
        intro W hW hf
        try simp only [Act.put, List.setIfInBounds_toArray, List.set_cons_succ, List.set_cons_zero]
        refine wpList_nil ?_
        have HH6 := Lib.hid hW
        clear hW hf
        have H7 := Lib.hid (H2.out.below HH6.out)
        have HB7 := Lib.hid (HB2.out.trans (HH6.out.mono HB2.out.size))
        have HBW7 := Lib.hid (HBn.out.trans (HB7.out.mono HBn.out.size))
        have HF7 := Lib.hid ((HH6.out.block _ (lt_blk HF.out)).trans HF.out)
        have HCB7 := Lib.hid ((HCB.out.below HH6.out).more HH6.out.size)
        have x1 := T0n.out W HB7.out
        have x2 := T1n.out W HB7.out
        have x3 := T2n.out W HB7.out
        have HE : Hid (d.append k b = d.wr (nput d.fs k ⟨(d.file k).b ++ b, (d.file k).safe, (d.file k).kept⟩)) := Lib.hid (by unfold Dk.append; rw [if_neg HNN.out, if_neg (fun h => by rcases h with h | h; exact absurd h.1 (by rw [hh]; decide); rw [← HN.out] at h; omega)])
        have HQ : Hid (d.used + n ≤ d.size) := Lib.hid (by omega)
        have HO : Hid (d.append k b).1.Ok := Lib.hid (H.out.ok.append k b)
        by_cases h0 : d.left = 0
        · have HW := Lib.hid (fun f => write_off H7.out h0 f)
          have HE2 : Hid (d.append k b = (d, 13)) := Lib.hid (by rw [HE.out]; unfold Dk.wr; rw [if_pos h0])
          clear h0
          go_wp2_with fail
          refine (HW.out _).mono ?_
          rintro e w3 ⟨rfl, rfl⟩
          go_wp2_with fail
          go_ret
          exact ⟨by rw [HE2.out]; rfl, by rw [HE2.out]; exact H7.out, .of_below HBW7.out⟩
        · have HE2 : Hid (d.append k b = (d.tick (nput d.fs k ⟨(d.file k).b ++ b, (d.file k).safe, (d.file k).kept⟩), 0)) := Lib.hid (by rw [HE.out]; unfold Dk.wr; rw [if_neg h0])
          have HW := Lib.hid (write_on H7.out h0 hw 72 (enters_of Tryz.func72 (by kernel_rfl) rfl) #[.pointer (some ⟨wn.heap.size, 0, none⟩), .pointer (some ⟨w.heap.size + 1 + 1, 0, none⟩), .pointer (some ⟨w.heap.size, 0, none⟩), .pointer (some ⟨w.heap.size + 1, 0, none⟩)] (fun w' => DiskAt w' p m (d.append k b).1 ∧ Dw w w' p m) (fun w3 h3 h4 => by
            have hgf : wn.heap.size < W.heap.size := lt_blk HF7.out
            have hgp : wn.heap.size ≠ p := by have := H0n.out.lt; omega
            have hf := HV.out
            obtain ⟨_, _, e1, _, _, hsafe, hlen, _⟩ := hf
            have hbs := H7.out.bs (h4.dw m) (Nat.le_refl _) ((HBS.out.below HB7.out).more HB7.out.size)
            have hcb := H7.out.bs (h4.dw m) (Nat.le_refl _) HCB7.out
            refine (append1_at (raw_of H7.out h3 h4) (by have := H7.out.ok.count; omega) k hk wn.heap.size (w.heap.size + 1 + 1) w.heap.size (w.heap.size + 1) hgp A (d.file k).b.length cap (d.file k) rfl ((h4.block _ hgf hgp).trans HF7.out) (hbs.more h4.size) HA0.out b n capb C HN.out (hcb.more h4.size) HC0.out (by have := HQ.out; have := HFL.out.2; omega) hsafe ((World.cell?_of_block (h4.block _ (cell_lt x3) (by show w.heap.size + 1 + 1 ≠ p; have := H.out.lt; omega))).trans x3) ((World.cell?_of_block (h4.block _ (cell_lt x1) (by show w.heap.size ≠ p; have := H.out.lt; omega))).trans x1) ((World.cell?_of_block (h4.block _ (cell_lt x2) (by show w.heap.size + 1 ≠ p; have := H.out.lt; omega))).trans x2) (Nat.ne_of_lt (cell_lt (T0n.out wn (Below.refl _ _)))) (Nat.ne_of_lt (cell_lt (T1n.out wn (Below.refl _ _))))).mono ?_
            rintro e w4 ⟨rfl, h5, h6⟩
            have h7 := HO.out
            rw [HE2.out] at h7 ⊢
            exact ⟨rfl, h5.disk h7, ((Dw.of_below HBW7.out).trans (h4.dw m)).new h6 (by have := HBn.out.size; omega)⟩))
          clear h0
          go_wp2_with fail
          refine HW.out.mono ?_
          rintro e w3 ⟨rfl, h5, h6⟩
          have H5 := Lib.hid h5; have H6 := Lib.hid h6
          clear h5 h6
          go_wp2_with fail
          go_ret
          exact ⟨by rw [HE2.out]; rfl, H5.out, H6.out⟩
    | false =>
      by_cases hmany : 256 ≤ d.fs.length
      · have hm2 : (256 : Int) ≤ d.fs.length := by omega
        go_upto_region 6 with (fail)
        apply wp_region_relH (H := []) 22 [(Sum.inl _ : TT), (Sum.inl _ : TT), (Sum.inl _ : TT), (Sum.inl _ : TT), (Sum.inl _ : TT), (Sum.inl _ : TT), (Sum.inl _ : TT), (Sum.inl _ : TT), (Sum.inl _ : TT), (Sum.inl _ : TT), (Sum.inl _ : TT), (Sum.inl _ : TT), (Sum.inl _ : TT), (Sum.inl _ : TT), (Sum.inl _ : TT), (Sum.inl _ : TT), (Sum.inl _ : TT), (Sum.inl _ : TT), (Sum.inl _ : TT), (Sum.inl _ : TT), (Sum.inl _ : TT), (Sum.inl _ : TT)] (by kernel_rfl) (by kernel_rfl) (fun _ _ _ _ _ h => h) rfl
        simp only [List.take_succ_cons, List.take_zero, List.drop_succ_cons, List.drop_zero]
        iterate 22 (apply rel_isS; (intro W hW hf; obtain ⟨z1, z2, z3, z4, z5⟩ := HCC.out W hW; go_simp; first | exact ⟨StayS.refl _ _, rfl⟩ | rfl); simp only [Act.put, List.setIfInBounds_toArray, List.set_cons_succ, List.set_cons_zero])
        refine rel_endS ?_
        intro W hW hf
        try simp only [Act.put, List.setIfInBounds_toArray, List.set_cons_succ, List.set_cons_zero]
        refine wpList_nil ?_
        have HH6 := Lib.hid hW
        clear hW hf
        have H7 := Lib.hid (H2.out.below HH6.out)
        have HB7 := Lib.hid (HB2.out.trans (HH6.out.mono HB2.out.size))
        have HBW7 := Lib.hid (HBn.out.trans (HB7.out.mono HBn.out.size))
        have HF7 := Lib.hid ((HH6.out.block _ (lt_blk HF.out)).trans HF.out)
        have HCB7 := Lib.hid ((HCB.out.below HH6.out).more HH6.out.size)
        have x1 := T0n.out W HB7.out
        have x2 := T1n.out W HB7.out
        have x3 := T2n.out W HB7.out
        have HE : Hid (d.append k b = (d, 8)) := Lib.hid (by unfold Dk.append; rw [if_neg HNN.out, if_pos (.inl ⟨hh, hmany⟩)])
        go_wp2_with fail
        go_ret
        exact ⟨by rw [HE.out]; rfl, by rw [HE.out]; exact H7.out, .of_below HBW7.out⟩
      · have hm2 : ¬ (256 : Int) ≤ d.fs.length := by omega
        by_cases hfull : d.size < d.used + n
        · have hq : (d.size : Int) - d.used < n := by omega
          go_upto_region 6 with (fail)
          apply wp_region_relH (H := []) 22 [(Sum.inl _ : TT), (Sum.inl _ : TT), (Sum.inl _ : TT), (Sum.inl _ : TT), (Sum.inl _ : TT), (Sum.inl _ : TT), (Sum.inl _ : TT), (Sum.inl _ : TT), (Sum.inl _ : TT), (Sum.inl _ : TT), (Sum.inl _ : TT), (Sum.inl _ : TT), (Sum.inl _ : TT), (Sum.inl _ : TT), (Sum.inl _ : TT), (Sum.inl _ : TT), (Sum.inl _ : TT), (Sum.inl _ : TT), (Sum.inl _ : TT), (Sum.inl _ : TT), (Sum.inl _ : TT), (Sum.inl _ : TT)] (by kernel_rfl) (by kernel_rfl) (fun _ _ _ _ _ h => h) rfl
          simp only [List.take_succ_cons, List.take_zero, List.drop_succ_cons, List.drop_zero]
          iterate 18 (apply rel_isS; (intro W hW hf; obtain ⟨z1, z2, z3, z4, z5⟩ := HCC.out W hW; go_simp; first | exact ⟨StayS.refl _ _, rfl⟩ | rfl); simp only [Act.put, List.setIfInBounds_toArray, List.set_cons_succ, List.set_cons_zero])
          apply rel_isS
          · intro W hW hf
            exact rel_callS hW (by first | rfl | (go_simp; done) | (go_simp; simp)) (by go_simp <;> first | rfl | exact ⟨rfl, rfl⟩ | exact ⟨rfl, rfl, rfl⟩) ((HUS.out W hW).mono fun e w'' h => ⟨_, h.1, h.2, rfl⟩)
          simp only [Act.put, List.setIfInBounds_toArray, List.set_cons_succ, List.set_cons_zero]
          iterate 3 (apply rel_isS; (intro W hW hf; obtain ⟨z1, z2, z3, z4, z5⟩ := HCC.out W hW; go_simp; first | exact ⟨StayS.refl _ _, rfl⟩ | rfl); simp only [Act.put, List.setIfInBounds_toArray, List.set_cons_succ, List.set_cons_zero])
          refine rel_endS ?_
          intro W hW hf
          try simp only [Act.put, List.setIfInBounds_toArray, List.set_cons_succ, List.set_cons_zero]
          refine wpList_nil ?_
          have HH6 := Lib.hid hW
          clear hW hf
          have H7 := Lib.hid (H2.out.below HH6.out)
          have HB7 := Lib.hid (HB2.out.trans (HH6.out.mono HB2.out.size))
          have HBW7 := Lib.hid (HBn.out.trans (HB7.out.mono HBn.out.size))
          have HF7 := Lib.hid ((HH6.out.block _ (lt_blk HF.out)).trans HF.out)
          have HCB7 := Lib.hid ((HCB.out.below HH6.out).more HH6.out.size)
          have x1 := T0n.out W HB7.out
          have x2 := T1n.out W HB7.out
          have x3 := T2n.out W HB7.out
          have HE : Hid (d.append k b = (d, 8)) := Lib.hid (by unfold Dk.append; rw [if_neg HNN.out, if_pos (.inr (by rw [← HN.out]; exact hfull))])
          go_wp2_with fail
          go_ret
          exact ⟨by rw [HE.out]; rfl, by rw [HE.out]; exact H7.out, .of_below HBW7.out⟩
        · have hq : ¬ (d.size : Int) - d.used < n := by omega
          go_upto_region 6 with (fail)
          apply wp_region_relH (H := []) 22 [(Sum.inl _ : TT), (Sum.inl _ : TT), (Sum.inl _ : TT), (Sum.inl _ : TT), (Sum.inl _ : TT), (Sum.inl _ : TT), (Sum.inl _ : TT), (Sum.inl _ : TT), (Sum.inl _ : TT), (Sum.inl _ : TT), (Sum.inl _ : TT), (Sum.inl _ : TT), (Sum.inl _ : TT), (Sum.inl _ : TT), (Sum.inl _ : TT), (Sum.inl _ : TT), (Sum.inl _ : TT), (Sum.inl _ : TT), (Sum.inl _ : TT), (Sum.inl _ : TT), (Sum.inl _ : TT), (Sum.inl _ : TT)] (by kernel_rfl) (by kernel_rfl) (fun _ _ _ _ _ h => h) rfl
          simp only [List.take_succ_cons, List.take_zero, List.drop_succ_cons, List.drop_zero]
          iterate 18 (apply rel_isS; (intro W hW hf; obtain ⟨z1, z2, z3, z4, z5⟩ := HCC.out W hW; go_simp; first | exact ⟨StayS.refl _ _, rfl⟩ | rfl); simp only [Act.put, List.setIfInBounds_toArray, List.set_cons_succ, List.set_cons_zero])
          apply rel_isS
          · intro W hW hf
            exact rel_callS hW (by first | rfl | (go_simp; done) | (go_simp; simp)) (by go_simp <;> first | rfl | exact ⟨rfl, rfl⟩ | exact ⟨rfl, rfl, rfl⟩) ((HUS.out W hW).mono fun e w'' h => ⟨_, h.1, h.2, rfl⟩)
          simp only [Act.put, List.setIfInBounds_toArray, List.set_cons_succ, List.set_cons_zero]
          iterate 3 (apply rel_isS; (intro W hW hf; obtain ⟨z1, z2, z3, z4, z5⟩ := HCC.out W hW; go_simp; first | exact ⟨StayS.refl _ _, rfl⟩ | rfl); simp only [Act.put, List.setIfInBounds_toArray, List.set_cons_succ, List.set_cons_zero])
          refine rel_endS ?_
          intro W hW hf
          try simp only [Act.put, List.setIfInBounds_toArray, List.set_cons_succ, List.set_cons_zero]
          refine wpList_nil ?_
          have HH6 := Lib.hid hW
          clear hW hf
          have H7 := Lib.hid (H2.out.below HH6.out)
          have HB7 := Lib.hid (HB2.out.trans (HH6.out.mono HB2.out.size))
          have HBW7 := Lib.hid (HBn.out.trans (HB7.out.mono HBn.out.size))
          have HF7 := Lib.hid ((HH6.out.block _ (lt_blk HF.out)).trans HF.out)
          have HCB7 := Lib.hid ((HCB.out.below HH6.out).more HH6.out.size)
          have x1 := T0n.out W HB7.out
          have x2 := T1n.out W HB7.out
          have x3 := T2n.out W HB7.out
          have HE : Hid (d.append k b = d.wr (nput d.fs k ⟨(d.file k).b ++ b, (d.file k).safe, (d.file k).kept⟩)) := Lib.hid (by unfold Dk.append; rw [if_neg HNN.out, if_neg (fun h => by rcases h with h | h; omega; rw [← HN.out] at h; omega)])
          have HQ : Hid (d.used + n ≤ d.size) := Lib.hid (by omega)
          have HO : Hid (d.append k b).1.Ok := Lib.hid (H.out.ok.append k b)
          by_cases h0 : d.left = 0
          · have HW := Lib.hid (fun f => write_off H7.out h0 f)
            have HE2 : Hid (d.append k b = (d, 13)) := Lib.hid (by rw [HE.out]; unfold Dk.wr; rw [if_pos h0])
            clear h0
            go_wp2_with fail
            refine (HW.out _).mono ?_
            rintro e w3 ⟨rfl, rfl⟩
            go_wp2_with fail
            go_ret
            exact ⟨by rw [HE2.out]; rfl, by rw [HE2.out]; exact H7.out, .of_below HBW7.out⟩
          · have HE2 : Hid (d.append k b = (d.tick (nput d.fs k ⟨(d.file k).b ++ b, (d.file k).safe, (d.file k).kept⟩), 0)) := Lib.hid (by rw [HE.out]; unfold Dk.wr; rw [if_neg h0])
            have HW := Lib.hid (write_on H7.out h0 hw 72 (enters_of Tryz.func72 (by kernel_rfl) rfl) #[.pointer (some ⟨wn.heap.size, 0, none⟩), .pointer (some ⟨w.heap.size + 1 + 1, 0, none⟩), .pointer (some ⟨w.heap.size, 0, none⟩), .pointer (some ⟨w.heap.size + 1, 0, none⟩)] (fun w' => DiskAt w' p m (d.append k b).1 ∧ Dw w w' p m) (fun w3 h3 h4 => by
              have hgf : wn.heap.size < W.heap.size := lt_blk HF7.out
              have hgp : wn.heap.size ≠ p := by have := H0n.out.lt; omega
              have hf := HV.out
              obtain ⟨_, _, e1, _, _, hsafe, hlen, _⟩ := hf
              have hbs := H7.out.bs (h4.dw m) (Nat.le_refl _) ((HBS.out.below HB7.out).more HB7.out.size)
              have hcb := H7.out.bs (h4.dw m) (Nat.le_refl _) HCB7.out
              refine (append1_at (raw_of H7.out h3 h4) (by have := H7.out.ok.count; omega) k hk wn.heap.size (w.heap.size + 1 + 1) w.heap.size (w.heap.size + 1) hgp A (d.file k).b.length cap (d.file k) rfl ((h4.block _ hgf hgp).trans HF7.out) (hbs.more h4.size) HA0.out b n capb C HN.out (hcb.more h4.size) HC0.out (by have := HQ.out; have := HFL.out.2; omega) hsafe ((World.cell?_of_block (h4.block _ (cell_lt x3) (by show w.heap.size + 1 + 1 ≠ p; have := H.out.lt; omega))).trans x3) ((World.cell?_of_block (h4.block _ (cell_lt x1) (by show w.heap.size ≠ p; have := H.out.lt; omega))).trans x1) ((World.cell?_of_block (h4.block _ (cell_lt x2) (by show w.heap.size + 1 ≠ p; have := H.out.lt; omega))).trans x2) (Nat.ne_of_lt (cell_lt (T0n.out wn (Below.refl _ _)))) (Nat.ne_of_lt (cell_lt (T1n.out wn (Below.refl _ _))))).mono ?_
              rintro e w4 ⟨rfl, h5, h6⟩
              have h7 := HO.out
              rw [HE2.out] at h7 ⊢
              exact ⟨rfl, h5.disk h7, ((Dw.of_below HBW7.out).trans (h4.dw m)).new h6 (by have := HBn.out.size; omega)⟩))
            clear h0
            go_wp2_with fail
            refine HW.out.mono ?_
            rintro e w3 ⟨rfl, h5, h6⟩
            have H5 := Lib.hid h5; have H6 := Lib.hid h6
            clear h5 h6
            go_wp2_with fail
            go_ret
            exact ⟨by rw [HE2.out]; rfl, H5.out, H6.out⟩
end Go.Proofs.YtegekaocbalndaaGreatDoor
end

section
set_option linter.unusedSimpArgs false
set_option linter.unusedVariables false
namespace Go.Proofs.YtegekaocbalndaaGreatDoor
open Go.RowKit

set_option maxRecDepth 100000 in
set_option maxHeartbeats 2000000 in
theorem remove_at {w : World} {p m : Nat} {d : Dk} (h : DiskAt w p m d) (hw : d.writes < 1000000000000) (k : Nm) (hk : k.length ≤ 9223372036854775807)  :
    Calls Tryz.prog 59 #[.pointer (some ⟨p, 0, none⟩), .string (str k)] w (DiskP w p m (d.remove k)) := by
  have H := Lib.hid h
  clear h
  go_enter Tryz.func59, Tryz.ntmps59
  go_wp2_with fail
  obtain ⟨b0_, b1_, hb_⟩ := boxes2 w (.cells #[.pointer (some ⟨p, 0, none⟩)] 25) (.cells #[.string (str k)] 9)
  generalize (w.alloc (.cells #[.pointer (some ⟨p, 0, none⟩)] 25)).alloc (.cells #[.string (str k)] 9) = w0 at *
  have T0b : Hid (∀ W, Below w0.heap.size w0 W → W.heap[w.heap.size]? = some (.cells #[.pointer (some ⟨p, 0, none⟩)] 25 (0, 0))) := Lib.hid (fun W hW => (hW.block _ (lt_blk b0_)).trans b0_)
  have T0 : Hid (∀ W, Below w0.heap.size w0 W → W.cell? ⟨w.heap.size, 0, none⟩ = some (.pointer (some ⟨p, 0, none⟩))) := Lib.hid (fun W hW => by have e := (hW.block _ (lt_blk b0_)).trans b0_; exact by rw [cell_blk e]; rfl)
  have T1b : Hid (∀ W, Below w0.heap.size w0 W → W.heap[w.heap.size + 1]? = some (.cells #[.string (str k)] 9 (0, 0))) := Lib.hid (fun W hW => (hW.block _ (lt_blk b1_)).trans b1_)
  have T1 : Hid (∀ W, Below w0.heap.size w0 W → W.cell? ⟨w.heap.size + 1, 0, none⟩ = some (.string (str k))) := Lib.hid (fun W hW => by have e := (hW.block _ (lt_blk b1_)).trans b1_; exact by rw [cell_blk e]; rfl)
  have HB := Lib.hid hb_
  clear hb_ b0_ b1_
  have H0 := Lib.hid (H.out.below HB.out)
  refine (none_at H0.out).mono ?_
  rintro e w1 ⟨rfl, rfl⟩
  obtain ⟨A, cap, hv, hl1, hl2, hbs, hA0, hcap⟩ := look_file H0.out k hk
  have HV := Lib.hid hv; have HL := Lib.hid hl1; have HBS := Lib.hid hbs; have HA0 := Lib.hid hA0; have HCP := Lib.hid hcap
  clear hv hl1 hl2 hbs hA0 hcap
  have x1 := T0.out w1 (Below.refl _ _)
  have x2 := T1.out w1 (Below.refl _ _)
  have x3 := cell_blk H0.out.own 1
  simp only [List.getElem?_toArray, List.getElem?_cons_succ, List.getElem?_cons_zero] at x3
  have y1 := fun o => T0.out (w1.alloc o) (below_alloc w1 o)
  have y2 := fun o => T1.out (w1.alloc o) (below_alloc w1 o)
  have y3 : ∀ o, (w1.alloc o).cell? ⟨p, 1, none⟩ = some (.map (some m)) := fun o => by have := cell_blk (H0.out.below (below_alloc w1 o)).own 1; exact this
  have l1 := HL.out w1.drew rfl
  have l2 := fun o => HL.out (w1.alloc o).drew (Below.heap_alloc _ _ _ H0.out.ltm)
  go_wp2_with fail
  go_region
  obtain ⟨hfb, hbl⟩ := boxes1 w1 (.cells #[.slice A (d.file k).b.length cap, .int .i64 (d.file k).safe, .bool (d.file k).kept] 78)
  have hfb2 : (w1.alloc (.cells #[.slice A (d.file k).b.length cap, .int .i64 (d.file k).safe, .bool (d.file k).kept] 78)).drew.heap[w1.heap.size]? = _ := hfb
  have hbl2 := hbl.drew
  generalize (w1.alloc (.cells #[.slice A (d.file k).b.length cap, .int .i64 (d.file k).safe, .bool (d.file k).kept] 78)).drew = w2 at *
  have HF := Lib.hid hfb2; have HB2 := Lib.hid hbl2
  clear x1 x2 x3 y1 y2 y3 l1 l2 hfb hbl hfb2 hbl2
  have H2 := Lib.hid (H0.out.below HB2.out)
  have HBW := Lib.hid (HB.out.trans (HB2.out.mono HB.out.size))
  have x1 := T0.out w2 HB2.out
  have x2 := T1.out w2 HB2.out
  cases hh : d.has k with
  | false =>
    have HE : Hid (d.remove k = (d, 6)) := Lib.hid (by unfold Dk.remove; rw [if_pos hh])
    go_wp2_with fail
    go_ret
    exact ⟨by rw [HE.out]; rfl, by rw [HE.out]; exact H2.out, .of_below HBW.out⟩
  | true =>
    have HE : Hid (d.remove k = d.wr (ndel d.fs k)) := Lib.hid (by unfold Dk.remove; rw [if_neg (by rw [hh]; decide)])
    clear hh
    have HO : Hid (d.remove k).1.Ok := Lib.hid (H.out.ok.remove k)
    by_cases h0 : d.left = 0
    · have HW := Lib.hid (fun f => write_off H2.out h0 f)
      have HE2 : Hid (d.remove k = (d, 13)) := Lib.hid (by rw [HE.out]; unfold Dk.wr; rw [if_pos h0])
      clear h0
      go_wp2_with fail
      refine (HW.out _).mono ?_
      rintro e w3 ⟨rfl, rfl⟩
      go_wp2_with fail
      go_ret
      exact ⟨by rw [HE2.out]; rfl, by rw [HE2.out]; exact H2.out, .of_below HBW.out⟩
    · have HE2 : Hid (d.remove k = (d.tick (ndel d.fs k), 0)) := Lib.hid (by rw [HE.out]; unfold Dk.wr; rw [if_neg h0])
      have HW := Lib.hid (write_on H2.out h0 hw 82 (enters_of Tryz.func82 (by kernel_rfl) rfl) #[.pointer (some ⟨w.heap.size, 0, none⟩), .pointer (some ⟨w.heap.size + 1, 0, none⟩)] (fun w' => DiskAt w' p m (d.remove k).1 ∧ Dw w w' p m) (fun w3 h3 h4 => by
        have hgf : w1.heap.size < w2.heap.size := lt_blk HF.out
        have hgp : w1.heap.size ≠ p := by have := H0.out.lt; omega
        have hf := HV.out
        obtain ⟨_, _, e1, _, _, hsafe, hlen, _⟩ := hf
        have hbs := H2.out.bs (h4.dw m) (Nat.le_refl _) ((HBS.out.below HB2.out).more HB2.out.size)
        refine (remove1_at (raw_of H2.out h3 h4) k hk w1.heap.size w.heap.size (w.heap.size + 1) ((World.cell?_of_block (h4.block _ (cell_lt x1) (by show w.heap.size ≠ p; have := H.out.lt; omega))).trans x1) ((World.cell?_of_block (h4.block _ (cell_lt x2) (by show w.heap.size + 1 ≠ p; have := H.out.lt; omega))).trans x2)).mono ?_
        rintro e w4 ⟨rfl, h5, h6⟩
        have h7 := HO.out
        rw [HE2.out] at h7 ⊢
        exact ⟨rfl, h5.disk h7, ((Dw.of_below HBW.out).trans (h4.dw m)).new h6 (by have := HB.out.size; omega)⟩))
      clear h0
      go_wp2_with fail
      refine HW.out.mono ?_
      rintro e w3 ⟨rfl, h5, h6⟩
      have H5 := Lib.hid h5; have H6 := Lib.hid h6
      clear h5 h6
      go_wp2_with fail
      go_ret
      exact ⟨by rw [HE2.out]; rfl, H5.out, H6.out⟩
set_option maxRecDepth 100000 in
set_option maxHeartbeats 2000000 in
theorem cut_at {w : World} {p m : Nat} {d : Dk} (h : DiskAt w p m d) (hw : d.writes < 1000000000000) (k : Nm) (hk : k.length ≤ 9223372036854775807) (c : Int) (hc : c ≤ 9223372036854775807) :
    Calls Tryz.prog 63 #[.pointer (some ⟨p, 0, none⟩), .string (str k), .int .i64 c] w (DiskP w p m (d.cut k c)) := by
  have H := Lib.hid h
  clear h
  go_enter Tryz.func63, Tryz.ntmps63
  go_wp2_with fail
  obtain ⟨b0_, b1_, b2_, hb_⟩ := boxes3 w (.cells #[.pointer (some ⟨p, 0, none⟩)] 25) (.cells #[.string (str k)] 9) (.cells #[.int .i64 c] 3)
  generalize ((w.alloc (.cells #[.pointer (some ⟨p, 0, none⟩)] 25)).alloc (.cells #[.string (str k)] 9)).alloc (.cells #[.int .i64 c] 3) = w0 at *
  have T0b : Hid (∀ W, Below w0.heap.size w0 W → W.heap[w.heap.size]? = some (.cells #[.pointer (some ⟨p, 0, none⟩)] 25 (0, 0))) := Lib.hid (fun W hW => (hW.block _ (lt_blk b0_)).trans b0_)
  have T0 : Hid (∀ W, Below w0.heap.size w0 W → W.cell? ⟨w.heap.size, 0, none⟩ = some (.pointer (some ⟨p, 0, none⟩))) := Lib.hid (fun W hW => by have e := (hW.block _ (lt_blk b0_)).trans b0_; exact by rw [cell_blk e]; rfl)
  have T1b : Hid (∀ W, Below w0.heap.size w0 W → W.heap[w.heap.size + 1]? = some (.cells #[.string (str k)] 9 (0, 0))) := Lib.hid (fun W hW => (hW.block _ (lt_blk b1_)).trans b1_)
  have T1 : Hid (∀ W, Below w0.heap.size w0 W → W.cell? ⟨w.heap.size + 1, 0, none⟩ = some (.string (str k))) := Lib.hid (fun W hW => by have e := (hW.block _ (lt_blk b1_)).trans b1_; exact by rw [cell_blk e]; rfl)
  have T2b : Hid (∀ W, Below w0.heap.size w0 W → W.heap[w.heap.size + 1 + 1]? = some (.cells #[.int .i64 c] 3 (0, 0))) := Lib.hid (fun W hW => (hW.block _ (lt_blk b2_)).trans b2_)
  have T2 : Hid (∀ W, Below w0.heap.size w0 W → W.cell? ⟨w.heap.size + 1 + 1, 0, none⟩ = some (.int .i64 c)) := Lib.hid (fun W hW => by have e := (hW.block _ (lt_blk b2_)).trans b2_; exact by rw [cell_blk e]; rfl)
  have HB := Lib.hid hb_
  clear hb_ b0_ b1_ b2_
  have H0 := Lib.hid (H.out.below HB.out)
  refine (none_at H0.out).mono ?_
  rintro e w1 ⟨rfl, rfl⟩
  obtain ⟨A, cap, hv, hl1, hl2, hbs, hA0, hcap⟩ := look_file H0.out k hk
  have HV := Lib.hid hv; have HL := Lib.hid hl1; have HBS := Lib.hid hbs; have HA0 := Lib.hid hA0; have HCP := Lib.hid hcap
  clear hv hl1 hl2 hbs hA0 hcap
  have x1 := T0.out w1 (Below.refl _ _)
  have x2 := T1.out w1 (Below.refl _ _)
  have x3 := cell_blk H0.out.own 1
  simp only [List.getElem?_toArray, List.getElem?_cons_succ, List.getElem?_cons_zero] at x3
  have y1 := fun o => T0.out (w1.alloc o) (below_alloc w1 o)
  have y2 := fun o => T1.out (w1.alloc o) (below_alloc w1 o)
  have y3 : ∀ o, (w1.alloc o).cell? ⟨p, 1, none⟩ = some (.map (some m)) := fun o => by have := cell_blk (H0.out.below (below_alloc w1 o)).own 1; exact this
  have l1 := HL.out w1.drew rfl
  have l2 := fun o => HL.out (w1.alloc o).drew (Below.heap_alloc _ _ _ H0.out.ltm)
  go_wp2_with fail
  go_region
  obtain ⟨hfb, hbl⟩ := boxes1 w1 (.cells #[.slice A (d.file k).b.length cap, .int .i64 (d.file k).safe, .bool (d.file k).kept] 78)
  have hfb2 : (w1.alloc (.cells #[.slice A (d.file k).b.length cap, .int .i64 (d.file k).safe, .bool (d.file k).kept] 78)).drew.heap[w1.heap.size]? = _ := hfb
  have hbl2 := hbl.drew
  generalize (w1.alloc (.cells #[.slice A (d.file k).b.length cap, .int .i64 (d.file k).safe, .bool (d.file k).kept] 78)).drew = w2 at *
  have HF := Lib.hid hfb2; have HB2 := Lib.hid hbl2
  clear x1 x2 x3 y1 y2 y3 l1 l2 hfb hbl hfb2 hbl2
  have H2 := Lib.hid (H0.out.below HB2.out)
  have HBW := Lib.hid (HB.out.trans (HB2.out.mono HB.out.size))
  have x1 := T0.out w2 HB2.out
  have x2 := T1.out w2 HB2.out
  have x3 := T2.out w2 HB2.out
  have hfc := fun i => cell_blk HF.out i
  have f0 := hfc 0
  have f1 := hfc 1
  simp only [List.getElem?_toArray, List.getElem?_cons_succ, List.getElem?_cons_zero] at f0 f1
  clear hfc
  have HFL := Lib.hid (H.out.ok.file k)
  cases hh : d.has k with
  | false =>
    have HE : Hid (d.cut k c = (d, 6)) := Lib.hid (by unfold Dk.cut; rw [if_pos hh])
    go_wp2_with fail
    go_ret
    exact ⟨by rw [HE.out]; rfl, by rw [HE.out]; exact H2.out, .of_below HBW.out⟩
  | true =>
    have HH : Hid (¬ d.has k = false) := Lib.hid (by rw [hh]; decide)
    clear hh
    by_cases hc0 : c < 0
    · have hg : c < 0 := hc0
      have HE : Hid (d.cut k c = (d, 2)) := Lib.hid (by unfold Dk.cut; rw [if_neg HH.out, if_pos (.inl hc0)])
      go_wp2_with fail
      go_ret
      exact ⟨by rw [HE.out]; rfl, by rw [HE.out]; exact H2.out, .of_below HBW.out⟩
    · obtain ⟨cn, rfl⟩ : ∃ cn : Nat, c = cn := ⟨c.toNat, by omega⟩
      by_cases hc1 : (d.file k).b.length < cn
      · have hc2 : ((d.file k).b.length : Int) < cn := by omega
        have HE : Hid (d.cut k cn = (d, 2)) := Lib.hid (by unfold Dk.cut; rw [if_neg HH.out, if_pos (.inr (by omega))])
        go_wp2_with fail
        go_ret
        exact ⟨by rw [HE.out]; rfl, by rw [HE.out]; exact H2.out, .of_below HBW.out⟩
      · by_cases hs : (d.file k).safe < (d.file k).b.length
        · have hs2 : ((d.file k).safe : Int) < (d.file k).b.length := by omega
          have hc2 : ¬ ((d.file k).b.length : Int) < cn := by omega
          have HE : Hid (d.cut k cn = (d, 10)) := Lib.hid (by unfold Dk.cut; rw [if_neg HH.out, if_neg (by omega), if_pos hs])
          go_wp2_with fail
          go_ret
          exact ⟨by rw [HE.out]; rfl, by rw [HE.out]; exact H2.out, .of_below HBW.out⟩
        · have hs2 : ¬ ((d.file k).safe : Int) < (d.file k).b.length := by omega
          have hc2 : ¬ ((d.file k).b.length : Int) < cn := by omega
          have HE : Hid (d.cut k cn = d.wr (nput d.fs k ⟨(d.file k).b.take cn, cn, true⟩)) := Lib.hid (by unfold Dk.cut; rw [if_neg HH.out, if_neg (by omega), if_neg hs]; simp)
          have HC1 := Lib.hid hc1
          have HO : Hid (d.cut k cn).1.Ok := Lib.hid (H.out.ok.cut k cn)
          by_cases h0 : d.left = 0
          · have HW := Lib.hid (fun f => write_off H2.out h0 f)
            have HE2 : Hid (d.cut k cn = (d, 13)) := Lib.hid (by rw [HE.out]; unfold Dk.wr; rw [if_pos h0])
            clear h0
            go_wp2_with fail
            refine (HW.out _).mono ?_
            rintro e w3 ⟨rfl, rfl⟩
            go_wp2_with fail
            go_ret
            exact ⟨by rw [HE2.out]; rfl, by rw [HE2.out]; exact H2.out, .of_below HBW.out⟩
          · have HE2 : Hid (d.cut k cn = (d.tick (nput d.fs k ⟨(d.file k).b.take cn, cn, true⟩), 0)) := Lib.hid (by rw [HE.out]; unfold Dk.wr; rw [if_neg h0])
            have HW := Lib.hid (write_on H2.out h0 hw 83 (enters_of Tryz.func83 (by kernel_rfl) rfl) #[.pointer (some ⟨w1.heap.size, 0, none⟩), .pointer (some ⟨w.heap.size + 1 + 1, 0, none⟩), .pointer (some ⟨w.heap.size, 0, none⟩), .pointer (some ⟨w.heap.size + 1, 0, none⟩)] (fun w' => DiskAt w' p m (d.cut k cn).1 ∧ Dw w w' p m) (fun w3 h3 h4 => by
              have hgf : w1.heap.size < w2.heap.size := lt_blk HF.out
              have hgp : w1.heap.size ≠ p := by have := H0.out.lt; omega
              have hf := HV.out
              obtain ⟨_, _, e1, _, _, hsafe, hlen, _⟩ := hf
              have hbs := H2.out.bs (h4.dw m) (Nat.le_refl _) ((HBS.out.below HB2.out).more HB2.out.size)
              refine (cut1_at (raw_of H2.out h3 h4) (by have := H2.out.ok.count; omega) k hk w1.heap.size (w.heap.size + 1 + 1) w.heap.size (w.heap.size + 1) A (d.file k).b.length cap (d.file k) rfl ((h4.block _ hgf hgp).trans HF.out) (hbs.more h4.size) HA0.out hlen HCP.out cn (by have := HC1.out; omega) ((World.cell?_of_block (h4.block _ (cell_lt x3) (by show w.heap.size + 1 + 1 ≠ p; have := H.out.lt; omega))).trans x3) ((World.cell?_of_block (h4.block _ (cell_lt x1) (by show w.heap.size ≠ p; have := H.out.lt; omega))).trans x1) ((World.cell?_of_block (h4.block _ (cell_lt x2) (by show w.heap.size + 1 ≠ p; have := H.out.lt; omega))).trans x2)).mono ?_
              rintro e w4 ⟨rfl, h5, h6⟩
              have h7 := HO.out
              rw [HE2.out] at h7 ⊢
              exact ⟨rfl, h5.disk h7, ((Dw.of_below HBW.out).trans (h4.dw m)).new h6 (by have := HB.out.size; omega)⟩))
            clear h0
            go_wp2_with fail
            refine HW.out.mono ?_
            rintro e w3 ⟨rfl, h5, h6⟩
            have H5 := Lib.hid h5; have H6 := Lib.hid h6
            clear h5 h6
            go_wp2_with fail
            go_ret
            exact ⟨by rw [HE2.out]; rfl, H5.out, H6.out⟩
end Go.Proofs.YtegekaocbalndaaGreatDoor
end
