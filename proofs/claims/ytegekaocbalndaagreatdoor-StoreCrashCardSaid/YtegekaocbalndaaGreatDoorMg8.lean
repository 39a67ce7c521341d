/- several texts in one: the closures of disk.Remove, Rename, Cut., the closures of disk.Append, Cut, Rename, Remove., the closure of disk.Cut. -/
import Derived.Test.YtegekaocbalndaaGreatDoorMg6
import Derived.Test.YtegekaocbalndaaGreatDoorBy
section
set_option linter.unusedSimpArgs false
set_option linter.unusedVariables false
namespace Go.Proofs.YtegekaocbalndaaGreatDoor
open Go.RowKit

set_option maxRecDepth 100000 in
set_option maxHeartbeats 2000000 in
theorem remove1_at {w : World} {p m n : Nat} {left : Int} {writes : Nat} {fs : Nl Fl} (h : Raw w p m n left writes fs) (k : Nm) (hk : k.length ≤ 9223372036854775807) (g gd gn : Nat)
    (hd : w.cell? ⟨gd, 0, none⟩ = some (.pointer (some ⟨p, 0, none⟩))) (hs : w.cell? ⟨gn, 0, none⟩ = some (.string (str k))) :
    Calls Tryz.prog 82 #[.pointer (some ⟨gd, 0, none⟩), .pointer (some ⟨gn, 0, none⟩)] w (ClP w g p m n left writes (ndel fs k)) := by
  have HR2 := Lib.hid h
  have HC : Hid (∀ W, Below w.heap.size w W → W.cell? ⟨gd, 0, none⟩ = some (.pointer (some ⟨p, 0, none⟩)) ∧ W.cell? ⟨gn, 0, none⟩ = some (.string (str k)) ∧ W.cell? ⟨p, 1, none⟩ = some (.map (some m))) := Lib.hid fun W h => by
    have a2 := cell_blk ((h.block _ HR2.out.lt).trans HR2.out.own) 1
    exact ⟨(h.cell (p := ⟨gd, 0, none⟩) (cell_lt hd)).trans hd, (h.cell (p := ⟨gn, 0, none⟩) (cell_lt hs)).trans hs, a2⟩
  clear h hd hs
  go_enter Tryz.func82, Tryz.ntmps82
  go_upto_region 0 with (fail)
  apply wp_region_relH (H := []) 5 [(Sum.inl _ : TT), (Sum.inl _ : TT), (Sum.inl _ : TT), (Sum.inl _ : TT), (Sum.inl _ : TT)] (by kernel_rfl) (by kernel_rfl) (fun _ _ _ _ _ h => h) rfl
  simp only [List.take_succ_cons, List.take_zero, List.drop_succ_cons, List.drop_zero]
  iterate 5 (apply rel_isS; (intro W hW hf; obtain ⟨x1, x2, x3⟩ := HC.out W hW; go_simp; first | exact ⟨StayS.refl _ _, rfl⟩ | rfl); simp only [Act.put, List.setIfInBounds_toArray, List.set_cons_succ, List.set_cons_zero])
  refine rel_endS ?_
  intro W hW hf
  try simp only [Act.put, List.setIfInBounds_toArray, List.set_cons_succ, List.set_cons_zero]
  have HR3 := Lib.hid (HR2.out.below hW)
  obtain ⟨w5, hrun, h5, h6⟩ := HR3.out.drop k hk 0
  have H5 := Lib.hid h5; have H6 := Lib.hid h6
  clear h5 h6
  go_wp2_with fail
  go_end0
  exact ⟨rfl, H5.out, (Dw.of_below hW).then H6.out⟩
set_option maxRecDepth 100000 in
set_option maxHeartbeats 2000000 in
theorem rename1_at {w : World} {p m n : Nat} {left : Int} {writes : Nat} {fs : Nl Fl} (h : Raw w p m n left writes fs) (hn : fs.length ≤ 1000000) (k k' : Nm) (hk : k.length ≤ 9223372036854775807) (hk' : k'.length ≤ 9223372036854775807) (gf gd gn gt : Nat) (hgp : gf ≠ p) (A : Option Addr) (len cap : Nat) (f : Fl)
    (hf : w.heap[gf]? = some (.cells #[.slice A len cap, .int .i64 f.safe, .bool f.kept] 78 (0, 0))) (hv : FileV w (.agg #[.slice A len cap, .int .i64 f.safe, .bool true]) ⟨f.b, f.safe, true⟩)
    (hd : w.cell? ⟨gd, 0, none⟩ = some (.pointer (some ⟨p, 0, none⟩))) (hs : w.cell? ⟨gn, 0, none⟩ = some (.string (str k))) (ht : w.cell? ⟨gt, 0, none⟩ = some (.string (str k'))) (hgd : gd ≠ gf) (hgt : gt ≠ gf) :
    Calls Tryz.prog 75 #[.pointer (some ⟨gd, 0, none⟩), .pointer (some ⟨gn, 0, none⟩), .pointer (some ⟨gf, 0, none⟩), .pointer (some ⟨gt, 0, none⟩)] w (ClP w gf p m n left writes (nput (ndel fs k) k' ⟨f.b, f.safe, true⟩)) := by
  have HR2 := Lib.hid h; have HF := Lib.hid hf; have HV := Lib.hid hv; have HN := Lib.hid hn; have HD := Lib.hid hd; have HT := Lib.hid ht
  have HC : Hid (∀ W, Below w.heap.size w W → W.cell? ⟨gd, 0, none⟩ = some (.pointer (some ⟨p, 0, none⟩)) ∧ W.cell? ⟨gn, 0, none⟩ = some (.string (str k)) ∧ W.cell? ⟨p, 1, none⟩ = some (.map (some m))) := Lib.hid fun W h => by
    have a2 := cell_blk ((h.block _ HR2.out.lt).trans HR2.out.own) 1
    exact ⟨(h.cell (p := ⟨gd, 0, none⟩) (cell_lt hd)).trans hd, (h.cell (p := ⟨gn, 0, none⟩) (cell_lt hs)).trans hs, a2⟩
  clear h hd hs hf hv hn ht
  go_enter Tryz.func75, Tryz.ntmps75
  go_upto_region 0 with (fail)
  apply wp_region_relH (H := []) 5 [(Sum.inl _ : TT), (Sum.inl _ : TT), (Sum.inl _ : TT), (Sum.inl _ : TT), (Sum.inl _ : TT)] (by kernel_rfl) (by kernel_rfl) (fun _ _ _ _ _ h => h) rfl
  simp only [List.take_succ_cons, List.take_zero, List.drop_succ_cons, List.drop_zero]
  iterate 5 (apply rel_isS; (intro W hW hf; obtain ⟨x1, x2, x3⟩ := HC.out W hW; go_simp; first | exact ⟨StayS.refl _ _, rfl⟩ | rfl); simp only [Act.put, List.setIfInBounds_toArray, List.set_cons_succ, List.set_cons_zero])
  refine rel_endS ?_
  intro W hW hf
  try simp only [Act.put, List.setIfInBounds_toArray, List.set_cons_succ, List.set_cons_zero]
  have HR3 := Lib.hid (HR2.out.below hW)
  have HW := Lib.hid hW
  clear hW hf
  obtain ⟨w5, hrun, h5, h6⟩ := HR3.out.drop k hk 0
  have H5 := Lib.hid h5; have H6 := Lib.hid h6
  clear h5 h6
  go_upto_region 1 with (fail)
  clear hrun
  have hcf := cell_blk ((HW.out.block _ (lt_blk HF.out)).trans HF.out)
  have hnm : gf ≠ m := HR3.out.no_map (i := 2) (hcf 2)
  have hfb : w5.heap[gf]? = _ := (H6.out.block gf (cell_lt (hcf 2)) (by simpa using hnm)).trans ((HW.out.block _ (lt_blk HF.out)).trans HF.out)
  have hdc : w5.cell? ⟨gd, 0, none⟩ = some (.pointer (some ⟨p, 0, none⟩)) := by
    have h1 := (HW.out.cell (p := ⟨gd, 0, none⟩) (cell_lt HD.out)).trans HD.out
    exact (World.cell?_of_block (H6.out.block gd (cell_lt h1) (by simpa using HR3.out.no_map h1))).trans h1
  have htc : w5.cell? ⟨gt, 0, none⟩ = some (.string (str k')) := by
    have h1 := (HW.out.cell (p := ⟨gt, 0, none⟩) (cell_lt HT.out)).trans HT.out
    exact (World.cell?_of_block (H6.out.block gt (cell_lt h1) (by simpa using HR3.out.no_map h1))).trans h1
  have HV5 := Lib.hid (HR3.out.fileV H6.out (HV.out.below HW.out))
  have f2 := cell_blk hfb 2
  simp only [List.getElem?_toArray, List.getElem?_cons_succ, List.getElem?_cons_zero] at f2
  have fz := fun i => free_blk hfb i
  have HF5 := Lib.hid hfb
  have f2' := f2
  clear hcf hfb
  go_upto_region 2 with (fail)
  have HR6 := Lib.hid (H5.out.set f2 rfl hgp (.bool true))
  have HV6 := Lib.hid (HV5.out.set (u := .bool true) f2 rfl)
  have HF6 := Lib.hid (set_blk HF5.out 2 (.bool true))
  have HW6 := Lib.hid (((Dw.of_below (p := gf) HW.out).then H6.out).trans (((Ow.refl w5 gf).set 2 (.bool true)).dw m))
  have d2 : (w5.setCell ⟨gf, 2, none⟩ (.bool true)).cell? ⟨gd, 0, none⟩ = some (.pointer (some ⟨p, 0, none⟩)) := (cell_set (by simp [hgd])).trans hdc
  have n2 : (w5.setCell ⟨gf, 2, none⟩ (.bool true)).cell? ⟨gt, 0, none⟩ = some (.string (str k')) := (cell_set (by simp [hgt])).trans htc
  generalize w5.setCell ⟨gf, 2, none⟩ (.bool true) = W2 at *
  clear f2 f2' fz hdc htc
  have HC2 : Hid (∀ W, Below W2.heap.size W2 W → W.cell? ⟨gd, 0, none⟩ = some (.pointer (some ⟨p, 0, none⟩)) ∧ W.cell? ⟨gt, 0, none⟩ = some (.string (str k')) ∧ W.cell? ⟨p, 1, none⟩ = some (.map (some m)) ∧ W.cell? ⟨gf, 0, none⟩ = some (.slice A len cap) ∧ W.cell? ⟨gf, 1, none⟩ = some (.int .i64 f.safe) ∧ W.cell? ⟨gf, 2, none⟩ = some (.bool true)) := Lib.hid fun W h => by
    have a1 := cell_blk ((h.block _ (lt_blk HF6.out)).trans HF6.out)
    have a2 := cell_blk ((h.block _ HR6.out.lt).trans HR6.out.own) 1
    exact ⟨(h.cell (p := ⟨gd, 0, none⟩) (cell_lt d2)).trans d2, (h.cell (p := ⟨gt, 0, none⟩) (cell_lt n2)).trans n2, a2, a1 0, a1 1, a1 2⟩
  clear d2 n2
  apply wp_region_relH (H := []) 6 [(Sum.inl _ : TT), (Sum.inl _ : TT), (Sum.inl _ : TT), (Sum.inl _ : TT), (Sum.inl _ : TT), (Sum.inl _ : TT)] (by kernel_rfl) (by kernel_rfl) (fun _ _ _ _ _ h => h) rfl
  simp only [List.take_succ_cons, List.take_zero, List.drop_succ_cons, List.drop_zero]
  iterate 6 (apply rel_isS; (intro W hW hf; obtain ⟨x1, x2, x3, x4, x5, x6⟩ := HC2.out W hW; go_simp; first | exact ⟨StayS.refl _ _, rfl⟩ | rfl); simp only [Act.put, List.setIfInBounds_toArray, List.set_cons_succ, List.set_cons_zero])
  refine rel_endS ?_
  intro W hW hf
  try simp only [Act.put, List.setIfInBounds_toArray, List.set_cons_succ, List.set_cons_zero]
  have HR7 := Lib.hid (HR6.out.below hW)
  have HV7 := Lib.hid (HV6.out.below hW)
  go_wp2_with (at_mapUpdate; refine wpList_layD HR7.out (by have := HN.out; have := del_length (l := fs) k; omega) k' hk' _ _ HV7.out rfl _ _ _ rfl rfl rfl rfl ?_; intro w8 h8 h9; have H8 := Lib.hid h8; have H9 := Lib.hid h9; clear h8 h9)
  go_end0
  exact ⟨rfl, H8.out, (HW6.out.trans (.of_below hW)).then H9.out⟩
end Go.Proofs.YtegekaocbalndaaGreatDoor
end

section
set_option linter.unusedSimpArgs false
set_option linter.unusedVariables false
namespace Go.Proofs.YtegekaocbalndaaGreatDoor
open Go.RowKit

set_option maxRecDepth 100000 in
set_option maxHeartbeats 2000000 in
theorem append1_at {w : World} {p m n : Nat} {left : Int} {writes : Nat} {fs : Nl Fl} (h : Raw w p m n left writes fs) (hn : fs.length ≤ 1000000) (k : Nm) (hk : k.length ≤ 9223372036854775807) (gf gb gd gn : Nat) (hgp : gf ≠ p) (A : Option Addr) (len cap : Nat) (f : Fl) (hl : len = f.b.length)
    (hf : w.heap[gf]? = some (.cells #[.slice A len cap, .int .i64 f.safe, .bool f.kept] 78 (0, 0))) (hA : Bs w w.heap.size A f.b) (hA0 : A = none → f.b = [])
    (b : List UInt8) (len2 capb : Nat) (C : Option Addr) (hl2 : len2 = b.length) (hC : Bs w w.heap.size C b) (hC0 : C = none → b = []) (hlen : len + len2 ≤ 67108864) (hsafe : f.safe ≤ f.b.length)
    (hb : w.cell? ⟨gb, 0, none⟩ = some (.slice C len2 capb))
    (hd : w.cell? ⟨gd, 0, none⟩ = some (.pointer (some ⟨p, 0, none⟩))) (hs : w.cell? ⟨gn, 0, none⟩ = some (.string (str k))) (hgd : gd ≠ gf) (hgn : gn ≠ gf) :
    Calls Tryz.prog 72 #[.pointer (some ⟨gf, 0, none⟩), .pointer (some ⟨gb, 0, none⟩), .pointer (some ⟨gd, 0, none⟩), .pointer (some ⟨gn, 0, none⟩)] w (ClP w gf p m n left writes (nput fs k ⟨f.b ++ b, f.safe, f.kept⟩)) := by
  have f0 := cell_blk hf 0
  simp only [List.getElem?_toArray, List.getElem?_cons_succ, List.getElem?_cons_zero] at f0
  have HF := Lib.hid hf; have HR := Lib.hid h; have HN := Lib.hid hn; have HA := Lib.hid hA; have HC := Lib.hid hC; have HA0 := Lib.hid hA0; have HC0 := Lib.hid hC0; have HL := Lib.hid hl; have HL2 := Lib.hid hl2; have HD := Lib.hid hd; have HS := Lib.hid hs
  have HSF := Lib.hid hsafe; have HLEN := Lib.hid hlen
  clear hf h hn hA hC hA0 hC0 hl hl2 hd hs hsafe
  go_enter Tryz.func72, Tryz.ntmps72
  go_wp2_with fail
  obtain ⟨b0_, hb_⟩ := boxes1 w (.cells #[.slice A len cap, .slice C len2 capb] 30)
  generalize w.alloc (.cells #[.slice A len cap, .slice C len2 capb] 30) = w1 at *
  have T0 : Hid (∀ W, Below w1.heap.size w1 W → W.cell? ⟨w.heap.size, 0, none⟩ = some (.slice A len cap) ∧ W.cell? ⟨w.heap.size, 1, none⟩ = some (.slice C len2 capb)) := Lib.hid (fun W hW => by have e := (hW.block _ (lt_blk b0_)).trans b0_; exact ⟨by rw [cell_blk e]; rfl, by rw [cell_blk e]; rfl⟩)
  have HB := Lib.hid hb_
  clear hb_ b0_
  have t0 := T0.out w1 (Below.refl _ _)
  have HCC := Lib.hid (concat_at w.heap.size f.b b len len2 HL.out HL2.out (by omega) (by omega) A C cap capb w1 t0.1 t0.2 (cell_lt t0.1) ((HA.out.below HB.out).more HB.out.size) ((HC.out.below HB.out).more HB.out.size) HA0.out HC0.out)
  clear t0 f0
  refine HCC.out.mono ?_
  rintro e w2 ⟨v, rfl, ho, hb2⟩
  obtain ⟨A2, c2, rfl, hrd, hA2, hcap2⟩ := own_rdS ho
  have HB2 := Lib.hid (HB.out.trans (hb2.mono HB.out.size))
  have HBS := Lib.hid hrd.bs
  have HA2 := Lib.hid hA2
  have HCAP := Lib.hid hcap2
  clear ho hb2 hrd hA2 hcap2
  have hf2 := (HB2.out.block gf (lt_blk HF.out)).trans HF.out
  have f0 := cell_blk hf2 0
  simp only [List.getElem?_toArray, List.getElem?_cons_succ, List.getElem?_cons_zero] at f0
  have fz := fun i => free_blk hf2 i
  have HF2 := Lib.hid hf2
  clear hf2
  have f0' := f0
  go_upto_region 1 with (fail)
  have HR3 := Lib.hid ((HR.out.below HB2.out).set f0 rfl hgp (.slice A2 (len + len2) c2))
  have HF3 := Lib.hid (set_blk HF2.out 0 (.slice A2 (len + len2) c2))
  have HBS3 := Lib.hid (HBS.out.set f0 rfl (v := .slice A2 (len + len2) c2))
  have HW3 := Lib.hid ((((Ow.refl w gf).below HB2.out)).set 0 (.slice A2 (len + len2) c2))
  have d2 : (w2.setCell ⟨gf, 0, none⟩ (.slice A2 (len + len2) c2)).cell? ⟨gd, 0, none⟩ = some (.pointer (some ⟨p, 0, none⟩)) := (cell_set (by simp [hgd])).trans ((HB2.out.cell (p := ⟨gd, 0, none⟩) (cell_lt HD.out)).trans HD.out)
  have n2 : (w2.setCell ⟨gf, 0, none⟩ (.slice A2 (len + len2) c2)).cell? ⟨gn, 0, none⟩ = some (.string (str k)) := (cell_set (by simp [hgn])).trans ((HB2.out.cell (p := ⟨gn, 0, none⟩) (cell_lt HS.out)).trans HS.out)
  have hsz : (w2.setCell ⟨gf, 0, none⟩ (.slice A2 (len + len2) c2)).heap.size = w2.heap.size := World.size_setCell _ _ _
  generalize w2.setCell ⟨gf, 0, none⟩ (.slice A2 (len + len2) c2) = W2 at *
  have HV3 : Hid (FileV W2 (.agg #[.slice A2 (len + len2 : Nat) c2, .int .i64 f.safe, .bool f.kept]) ⟨f.b ++ b, f.safe, f.kept⟩) := Lib.hid ⟨A2, c2, by simp [HL.out, HL2.out], by rw [hsz]; exact HBS3.out, by simp [← HL.out, ← HL2.out]; exact HCAP.out, by have := HSF.out; simp; omega, by have h1 := HLEN.out; have h2 := HL.out; have h3 := HL2.out; simp only [List.length_append]; omega, fun h => by have h1 := HA2.out h; have := HL.out; have := HL2.out; exact List.eq_nil_of_length_eq_zero (by rw [List.length_append]; omega)⟩
  clear f0 f0' fz hsz
  have HC : Hid (∀ W, Below W2.heap.size W2 W → W.cell? ⟨gd, 0, none⟩ = some (.pointer (some ⟨p, 0, none⟩)) ∧ W.cell? ⟨gn, 0, none⟩ = some (.string (str k)) ∧ W.cell? ⟨p, 1, none⟩ = some (.map (some m)) ∧ W.cell? ⟨gf, 0, none⟩ = some (.slice A2 (len + len2) c2) ∧ W.cell? ⟨gf, 1, none⟩ = some (.int .i64 f.safe) ∧ W.cell? ⟨gf, 2, none⟩ = some (.bool f.kept)) := Lib.hid fun W h => by
    have a1 := cell_blk ((h.block _ (lt_blk HF3.out)).trans HF3.out)
    have a2 := cell_blk ((h.block _ HR3.out.lt).trans HR3.out.own) 1
    exact ⟨(h.cell (p := ⟨gd, 0, none⟩) (cell_lt d2)).trans d2, (h.cell (p := ⟨gn, 0, none⟩) (cell_lt n2)).trans n2, a2, a1 0, a1 1, a1 2⟩
  clear d2 n2
  apply wp_region_relH (H := []) 6 [(Sum.inl _ : TT), (Sum.inl _ : TT), (Sum.inl _ : TT), (Sum.inl _ : TT), (Sum.inl _ : TT), (Sum.inl _ : TT)] (by kernel_rfl) (by kernel_rfl) (fun _ _ _ _ _ h => h) rfl
  simp only [List.take_succ_cons, List.take_zero, List.drop_succ_cons, List.drop_zero]
  iterate 6 (apply rel_isS; (intro W hW hf; obtain ⟨x1, x2, x3, x4, x5, x6⟩ := HC.out W hW; go_simp; first | exact ⟨StayS.refl _ _, rfl⟩ | rfl); simp only [Act.put, List.setIfInBounds_toArray, List.set_cons_succ, List.set_cons_zero])
  refine rel_endS ?_
  intro W hW hf
  try simp only [Act.put, List.setIfInBounds_toArray, List.set_cons_succ, List.set_cons_zero]
  have HR4 := Lib.hid (HR3.out.below hW)
  have HV4 := Lib.hid (HV3.out.below hW)
  go_wp2_with (at_mapUpdate; refine wpList_layD HR4.out HN.out k hk _ _ HV4.out rfl _ _ _ rfl rfl rfl rfl ?_; intro w5 h5 h6; have H5 := Lib.hid h5; have H6 := Lib.hid h6; clear h5 h6)
  go_end0
  exact ⟨rfl, H5.out, ((HW3.out.below hW).dw m).then H6.out⟩
end Go.Proofs.YtegekaocbalndaaGreatDoor
end

section
set_option linter.unusedSimpArgs false
set_option linter.unusedVariables false
namespace Go.Proofs.YtegekaocbalndaaGreatDoor
open Go.RowKit

def FileR (f : Fl) (v : Value) (w : World) : Prop := FileV w v f
theorem FileR.keepsS (f : Fl) : KeepsS (FileR f) := fun v w w' h hb => FileV.below h hb
def ClR (l : List UInt8) (n : Nat) (v : Value) (w : World) : Prop := ∃ A cap, v = .slice A n cap ∧ Bs w w.heap.size A l ∧ (A = none → l = []) ∧ n ≤ cap
theorem ClR.keepsS (l : List UInt8) (n : Nat) : KeepsS (ClR l n) := fun v w w' h hb => by
  obtain ⟨A, cap, h1, h2, h3⟩ := h
  exact ⟨A, cap, h1, (h2.below hb).more hb.size, h3⟩
theorem Bs.take {w : World} {B : Nat} {A : Option Addr} {l : List UInt8} (h : Bs w B A l) (n : Nat) : Bs w B A (l.take n) := fun j hj => by
  have h1 : j < n := by simp at hj; omega
  have h2 : j < l.length := by simp at hj; omega
  obtain ⟨b, off, h3, h4, h5⟩ := h j h2
  refine ⟨b, off, h3, h4, ?_⟩
  rw [h5]
  simp [List.getD_eq_getElem?_getD, List.getElem?_take, h1]
set_option maxRecDepth 100000 in
set_option maxHeartbeats 2000000 in
theorem cut1_at {w : World} {p m n : Nat} {left : Int} {writes : Nat} {fs : Nl Fl} (h : Raw w p m n left writes fs) (hn : fs.length ≤ 1000000) (k : Nm) (hk : k.length ≤ 9223372036854775807) (gf gs gd gn : Nat) (A : Option Addr) (len cap : Nat) (f : Fl) (hl : len = f.b.length)
    (hf : w.heap[gf]? = some (.cells #[.slice A len cap, .int .i64 f.safe, .bool f.kept] 78 (0, 0))) (hA : Bs w w.heap.size A f.b) (hA0 : A = none → f.b = []) (hlen : len ≤ 67108864) (hcap : len ≤ cap) (c : Nat) (hc : c ≤ len)
    (hz : w.cell? ⟨gs, 0, none⟩ = some (.int .i64 c))
    (hd : w.cell? ⟨gd, 0, none⟩ = some (.pointer (some ⟨p, 0, none⟩))) (hs : w.cell? ⟨gn, 0, none⟩ = some (.string (str k))) :
    Calls Tryz.prog 83 #[.pointer (some ⟨gf, 0, none⟩), .pointer (some ⟨gs, 0, none⟩), .pointer (some ⟨gd, 0, none⟩), .pointer (some ⟨gn, 0, none⟩)] w (ClP w gf p m n left writes (nput fs k ⟨f.b.take c, c, true⟩)) := by
  have HR := Lib.hid h; have HN := Lib.hid hn
  have HC : Hid (∀ W, Below w.heap.size w W → W.cell? ⟨gd, 0, none⟩ = some (.pointer (some ⟨p, 0, none⟩)) ∧ W.cell? ⟨gn, 0, none⟩ = some (.string (str k)) ∧ W.cell? ⟨p, 1, none⟩ = some (.map (some m)) ∧ W.cell? ⟨gf, 0, none⟩ = some (.slice A len cap) ∧ W.cell? ⟨gs, 0, none⟩ = some (.int .i64 c)) := Lib.hid fun W h => by
    have a1 := cell_blk ((h.block _ (lt_blk hf)).trans hf)
    have a2 := cell_blk ((h.block _ HR.out.lt).trans HR.out.own) 1
    exact ⟨(h.cell (p := ⟨gd, 0, none⟩) (cell_lt hd)).trans hd, (h.cell (p := ⟨gn, 0, none⟩) (cell_lt hs)).trans hs, a2, a1 0, (h.cell (p := ⟨gs, 0, none⟩) (cell_lt hz)).trans hz⟩
  have ht : (f.b.take c).length = c := by rw [List.length_take]; omega
  have HT := Lib.hid ht
  have HCL : Hid (∀ W, Below w.heap.size w W → Calls Tryz.prog 54 #[.slice A c cap] W fun e w' => ∃ v, e = .returned v ∧ Below W.heap.size W w' ∧ ClR (f.b.take c) c v w') := Lib.hid fun W h => by
    have h1 := clone_bytes (f.b.take c) (by omega) A cap w.heap.size W ((hA.below h).take c) (fun h => by rw [hA0 h]; simp) h.size
    rw [ht] at h1
    refine h1.mono ?_
    rintro e w' ⟨A', cap', rfl, h2, h3, h4, h5⟩
    rw [ht] at h4 ⊢
    exact ⟨_, rfl, h5, A', cap', rfl, h2, h3, h4⟩
  have hcc : c ≤ cap := by omega
  have hc63 : c ≤ 67108864 := by omega
  clear h hd hs hf hn hA hA0 hl hz ht
  go_enter Tryz.func83, Tryz.ntmps83
  go_upto_region 0 with (fail)
  apply wp_region_relH (H := []) 12 [(Sum.inl _ : TT), (Sum.inl _ : TT), (Sum.inl _ : TT), (Sum.inl _ : TT), (Sum.inl _ : TT), (Sum.inl _ : TT), (Sum.inl _ : TT), (Sum.inl _ : TT), (Sum.inl _ : TT), .inr (ClR (f.b.take c) c), (Sum.inl _ : TT), .inr (FileR ⟨f.b.take c, c, true⟩)] (by kernel_rfl) (by kernel_rfl) (fun _ _ _ _ _ h => h) rfl
  simp only [List.take_succ_cons, List.take_zero, List.drop_succ_cons, List.drop_zero]
  iterate 9 (apply rel_isS; (intro W hW hf; obtain ⟨x1, x2, x3, x4, x5⟩ := HC.out W hW; go_simp; first | exact ⟨StayS.refl _ _, rfl⟩ | rfl); simp only [Act.put, List.setIfInBounds_toArray, List.set_cons_succ, List.set_cons_zero])
  refine rel_fitsS (fun W hW hf => rel_callS hW rfl (by go_simp <;> first | rfl | exact ⟨rfl, rfl⟩ | exact ⟨rfl, rfl, rfl⟩) (HCL.out W hW)) (ClR.keepsS _ _) fun v13 => ?_
  simp only [Act.put, List.setIfInBounds_toArray, List.set_cons_succ, List.set_cons_zero]
  iterate 1 (apply rel_isS; (intro W hW hf; obtain ⟨x1, x2, x3, x4, x5⟩ := HC.out W hW; go_simp; first | exact ⟨StayS.refl _ _, rfl⟩ | rfl); simp only [Act.put, List.setIfInBounds_toArray, List.set_cons_succ, List.set_cons_zero])
  refine rel_fitsS (fun W hW hf => ?_) (FileR.keepsS _) fun v15 => ?_
  · have h := hf (13, ClR (f.b.take c) c v13) (by simp) (by simp [Oper.looksAt, Op.operands, Call.operands])
    obtain ⟨A', cap', rfl, h2, h3, h4⟩ := h
    go_simp
    exact ⟨StayS.refl _ _, A', cap', by simp only [HT.out], h2, by simp only [HT.out]; exact h4, by simp only [HT.out]; exact Nat.le_refl _, by simp only [HT.out]; exact hc63, h3⟩
  simp only [Act.put, List.setIfInBounds_toArray, List.set_cons_succ, List.set_cons_zero]
  refine rel_endS ?_
  intro W hW hf
  try simp only [Act.put, List.setIfInBounds_toArray, List.set_cons_succ, List.set_cons_zero]
  have hv := hf (15, FileR ⟨f.b.take c, c, true⟩ v15) (by simp)
  have HV := Lib.hid hv
  have HR3 := Lib.hid (HR.out.below hW)
  clear hf hv
  go_wp2_with (at_mapUpdate; refine wpList_layD HR3.out HN.out k hk _ _ HV.out rfl _ _ _ rfl rfl rfl rfl ?_; intro w5 h5 h6; have H5 := Lib.hid h5; have H6 := Lib.hid h6; clear h5 h6)
  go_end0
  exact ⟨rfl, H5.out, (Dw.of_below hW).then H6.out⟩
end Go.Proofs.YtegekaocbalndaaGreatDoor
end
