/- the closures of disk.Remove, Rename, Cut. -/
import Derived.Test.YtdmodhcbcpmadaaMg6
import Derived.Test.YtdmodhcbcpmadaaBy
set_option linter.unusedSimpArgs false
set_option linter.unusedVariables false
namespace Go.Proofs.Ytdmodhcbcpmadaa
open Go.RowKit

set_option maxRecDepth 100000 in
set_option maxHeartbeats 2000000 in
theorem remove1_at {w : World} {p m n : Nat} {left : Int} {writes : Nat} {fs : Nl Fl} (h : Raw w p m n left writes fs) (k : Nm) (hk : k.length ≤ 9223372036854775807) (g gd gn : Nat)
    (hd : w.cell? ⟨gd, 0, none⟩ = some (.pointer (some ⟨p, 0, none⟩))) (hs : w.cell? ⟨gn, 0, none⟩ = some (.string (str k))) :
    Calls Try.prog 67 #[.pointer (some ⟨gd, 0, none⟩), .pointer (some ⟨gn, 0, none⟩)] w (ClP w g p m n left writes (ndel fs k)) := by
  have HR2 := Lib.hid h
  have HC : Hid (∀ W, Below w.heap.size w W → W.cell? ⟨gd, 0, none⟩ = some (.pointer (some ⟨p, 0, none⟩)) ∧ W.cell? ⟨gn, 0, none⟩ = some (.string (str k)) ∧ W.cell? ⟨p, 1, none⟩ = some (.map (some m))) := Lib.hid fun W h => by
    have a2 := cell_blk ((h.block _ HR2.out.lt).trans HR2.out.own) 1
    exact ⟨(h.cell (p := ⟨gd, 0, none⟩) (cell_lt hd)).trans hd, (h.cell (p := ⟨gn, 0, none⟩) (cell_lt hs)).trans hs, a2⟩
  clear h hd hs
  go_enter Try.func67, Try.ntmps67
  go_upto_region 0 with (fail)
  apply wp_region_relH (H := []) 5 [(Sum.inl _ : TT), (Sum.inl _ : TT), (Sum.inl _ : TT), (Sum.inl _ : TT), (Sum.inl _ : TT)] (by kernel_rfl) (by kernel_rfl) (fun _ _ _ _ _ h => h) rfl
  simp only [List.take_succ_cons, List.take_zero, List.drop_succ_cons, List.drop_zero]
  iterate 5 (apply rel_isS; (intro W hW hf; obtain ⟨x1, x2, x3⟩ := HC.out W hW; go_simp; first | exact ⟨StayS.refl _ _, rfl⟩ | rfl); simp only [Act.put, List.setIfInBounds_toArray, List.set_cons_succ, List.set_cons_zero])
  refine rel_endS ?_
  intro W hW hf
  try simp only [Act.put, List.setIfInBounds_toArray, List.set_cons_succ, List.set_cons_zero]
  have HR3 := Lib.hid (HR2.out.below hW)
  obtain ⟨w5, hrun, h5, h6⟩ := HR3.out.drop k hk 0
  have H5 := Lib.hid h5; have H6 := Lib.hid h6
  clear h5 h6
  go_wp2_with fail
  go_end0
  exact ⟨rfl, H5.out, (Dw.of_below hW).then H6.out⟩
set_option maxRecDepth 100000 in
set_option maxHeartbeats 2000000 in
theorem rename1_at {w : World} {p m n : Nat} {left : Int} {writes : Nat} {fs : Nl Fl} (h : Raw w p m n left writes fs) (hn : fs.length ≤ 1000000) (k k' : Nm) (hk : k.length ≤ 9223372036854775807) (hk' : k'.length ≤ 9223372036854775807) (gf gd gn gt : Nat) (hgp : gf ≠ p) (A : Option Addr) (len cap : Nat) (f : Fl)
    (hf : w.heap[gf]? = some (.cells #[.slice A len cap, .int .i64 f.safe, .bool f.kept] 77 (0, 0))) (hv : FileV w (.agg #[.slice A len cap, .int .i64 f.safe, .bool true]) ⟨f.b, f.safe, true⟩)
    (hd : w.cell? ⟨gd, 0, none⟩ = some (.pointer (some ⟨p, 0, none⟩))) (hs : w.cell? ⟨gn, 0, none⟩ = some (.string (str k))) (ht : w.cell? ⟨gt, 0, none⟩ = some (.string (str k'))) (hgd : gd ≠ gf) (hgt : gt ≠ gf) :
    Calls Try.prog 65 #[.pointer (some ⟨gd, 0, none⟩), .pointer (some ⟨gn, 0, none⟩), .pointer (some ⟨gf, 0, none⟩), .pointer (some ⟨gt, 0, none⟩)] w (ClP w gf p m n left writes (nput (ndel fs k) k' ⟨f.b, f.safe, true⟩)) := by
  have HR2 := Lib.hid h; have HF := Lib.hid hf; have HV := Lib.hid hv; have HN := Lib.hid hn; have HD := Lib.hid hd; have HT := Lib.hid ht
  have HC : Hid (∀ W, Below w.heap.size w W → W.cell? ⟨gd, 0, none⟩ = some (.pointer (some ⟨p, 0, none⟩)) ∧ W.cell? ⟨gn, 0, none⟩ = some (.string (str k)) ∧ W.cell? ⟨p, 1, none⟩ = some (.map (some m))) := Lib.hid fun W h => by
    have a2 := cell_blk ((h.block _ HR2.out.lt).trans HR2.out.own) 1
    exact ⟨(h.cell (p := ⟨gd, 0, none⟩) (cell_lt hd)).trans hd, (h.cell (p := ⟨gn, 0, none⟩) (cell_lt hs)).trans hs, a2⟩
  clear h hd hs hf hv hn ht
  go_enter Try.func65, Try.ntmps65
  go_upto_region 0 with (fail)
  apply wp_region_relH (H := []) 5 [(Sum.inl _ : TT), (Sum.inl _ : TT), (Sum.inl _ : TT), (Sum.inl _ : TT), (Sum.inl _ : TT)] (by kernel_rfl) (by kernel_rfl) (fun _ _ _ _ _ h => h) rfl
  simp only [List.take_succ_cons, List.take_zero, List.drop_succ_cons, List.drop_zero]
  iterate 5 (apply rel_isS; (intro W hW hf; obtain ⟨x1, x2, x3⟩ := HC.out W hW; go_simp; first | exact ⟨StayS.refl _ _, rfl⟩ | rfl); simp only [Act.put, List.setIfInBounds_toArray, List.set_cons_succ, List.set_cons_zero])
  refine rel_endS ?_
  intro W hW hf
  try simp only [Act.put, List.setIfInBounds_toArray, List.set_cons_succ, List.set_cons_zero]
  have HR3 := Lib.hid (HR2.out.below hW)
  have HW := Lib.hid hW
  clear hW hf
  obtain ⟨w5, hrun, h5, h6⟩ := HR3.out.drop k hk 0
  have H5 := Lib.hid h5; have H6 := Lib.hid h6
  clear h5 h6
  go_upto_region 1 with (fail)
  clear hrun
  have hcf := cell_blk ((HW.out.block _ (lt_blk HF.out)).trans HF.out)
  have hnm : gf ≠ m := HR3.out.no_map (i := 2) (hcf 2)
  have hfb : w5.heap[gf]? = _ := (H6.out.block gf (cell_lt (hcf 2)) (by simpa using hnm)).trans ((HW.out.block _ (lt_blk HF.out)).trans HF.out)
  have hdc : w5.cell? ⟨gd, 0, none⟩ = some (.pointer (some ⟨p, 0, none⟩)) := by
    have h1 := (HW.out.cell (p := ⟨gd, 0, none⟩) (cell_lt HD.out)).trans HD.out
    exact (World.cell?_of_block (H6.out.block gd (cell_lt h1) (by simpa using HR3.out.no_map h1))).trans h1
  have htc : w5.cell? ⟨gt, 0, none⟩ = some (.string (str k')) := by
    have h1 := (HW.out.cell (p := ⟨gt, 0, none⟩) (cell_lt HT.out)).trans HT.out
    exact (World.cell?_of_block (H6.out.block gt (cell_lt h1) (by simpa using HR3.out.no_map h1))).trans h1
  have HV5 := Lib.hid (HR3.out.fileV H6.out (HV.out.below HW.out))
  have f2 := cell_blk hfb 2
  simp only [List.getElem?_toArray, List.getElem?_cons_succ, List.getElem?_cons_zero] at f2
  have fz := fun i => free_blk hfb i
  have HF5 := Lib.hid hfb
  have f2' := f2
  clear hcf hfb
  go_upto_region 2 with (fail)
  have HR6 := Lib.hid (H5.out.set f2 rfl hgp (.bool true))
  have HV6 := Lib.hid (HV5.out.set (u := .bool true) f2 rfl)
  have HF6 := Lib.hid (set_blk HF5.out 2 (.bool true))
  have HW6 := Lib.hid (((Dw.of_below (p := gf) HW.out).then H6.out).trans (((Ow.refl w5 gf).set 2 (.bool true)).dw m))
  have d2 : (w5.setCell ⟨gf, 2, none⟩ (.bool true)).cell? ⟨gd, 0, none⟩ = some (.pointer (some ⟨p, 0, none⟩)) := (cell_set (by simp [hgd])).trans hdc
  have n2 : (w5.setCell ⟨gf, 2, none⟩ (.bool true)).cell? ⟨gt, 0, none⟩ = some (.string (str k')) := (cell_set (by simp [hgt])).trans htc
  generalize w5.setCell ⟨gf, 2, none⟩ (.bool true) = W2 at *
  clear f2 f2' fz hdc htc
  have HC2 : Hid (∀ W, Below W2.heap.size W2 W → W.cell? ⟨gd, 0, none⟩ = some (.pointer (some ⟨p, 0, none⟩)) ∧ W.cell? ⟨gt, 0, none⟩ = some (.string (str k')) ∧ W.cell? ⟨p, 1, none⟩ = some (.map (some m)) ∧ W.cell? ⟨gf, 0, none⟩ = some (.slice A len cap) ∧ W.cell? ⟨gf, 1, none⟩ = some (.int .i64 f.safe) ∧ W.cell? ⟨gf, 2, none⟩ = some (.bool true)) := Lib.hid fun W h => by
    have a1 := cell_blk ((h.block _ (lt_blk HF6.out)).trans HF6.out)
    have a2 := cell_blk ((h.block _ HR6.out.lt).trans HR6.out.own) 1
    exact ⟨(h.cell (p := ⟨gd, 0, none⟩) (cell_lt d2)).trans d2, (h.cell (p := ⟨gt, 0, none⟩) (cell_lt n2)).trans n2, a2, a1 0, a1 1, a1 2⟩
  clear d2 n2
  apply wp_region_relH (H := []) 6 [(Sum.inl _ : TT), (Sum.inl _ : TT), (Sum.inl _ : TT), (Sum.inl _ : TT), (Sum.inl _ : TT), (Sum.inl _ : TT)] (by kernel_rfl) (by kernel_rfl) (fun _ _ _ _ _ h => h) rfl
  simp only [List.take_succ_cons, List.take_zero, List.drop_succ_cons, List.drop_zero]
  iterate 6 (apply rel_isS; (intro W hW hf; obtain ⟨x1, x2, x3, x4, x5, x6⟩ := HC2.out W hW; go_simp; first | exact ⟨StayS.refl _ _, rfl⟩ | rfl); simp only [Act.put, List.setIfInBounds_toArray, List.set_cons_succ, List.set_cons_zero])
  refine rel_endS ?_
  intro W hW hf
  try simp only [Act.put, List.setIfInBounds_toArray, List.set_cons_succ, List.set_cons_zero]
  have HR7 := Lib.hid (HR6.out.below hW)
  have HV7 := Lib.hid (HV6.out.below hW)
  go_wp2_with (at_mapUpdate; refine wpList_layD HR7.out (by have := HN.out; have := del_length (l := fs) k; omega) k' hk' _ _ HV7.out rfl _ _ _ rfl rfl rfl rfl ?_; intro w8 h8 h9; have H8 := Lib.hid h8; have H9 := Lib.hid h9; clear h8 h9)
  go_end0
  exact ⟨rfl, H8.out, (HW6.out.trans (.of_below hW)).then H9.out⟩
end Go.Proofs.Ytdmodhcbcpmadaa
