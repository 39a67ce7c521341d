/- the closures of disk.Append, Cut, Rename, Remove. -/
import Derived.Test.YtdmodhcbcpmadaaMg6
set_option linter.unusedSimpArgs false
set_option linter.unusedVariables false
namespace Go.Proofs.Ytdmodhcbcpmadaa
open Go.RowKit

set_option maxRecDepth 100000 in
set_option maxHeartbeats 2000000 in
theorem append1_at {w : World} {p m n : Nat} {left : Int} {writes : Nat} {fs : Nl Fl} (h : Raw w p m n left writes fs) (hn : fs.length ≤ 1000000) (k : Nm) (hk : k.length ≤ 9223372036854775807) (gf gb gd gn : Nat) (hgp : gf ≠ p) (A : Option Addr) (len cap : Nat) (f : Fl) (hl : len = f.b.length)
    (hf : w.heap[gf]? = some (.cells #[.slice A len cap, .int .i64 f.safe, .bool f.kept] 77 (0, 0))) (hA : Bs w w.heap.size A f.b) (hA0 : A = none → f.b = [])
    (b : List UInt8) (len2 capb : Nat) (C : Option Addr) (hl2 : len2 = b.length) (hC : Bs w w.heap.size C b) (hC0 : C = none → b = []) (hlen : len + len2 ≤ 67108864) (hsafe : f.safe ≤ f.b.length)
    (hb : w.cell? ⟨gb, 0, none⟩ = some (.slice C len2 capb))
    (hd : w.cell? ⟨gd, 0, none⟩ = some (.pointer (some ⟨p, 0, none⟩))) (hs : w.cell? ⟨gn, 0, none⟩ = some (.string (str k))) (hgd : gd ≠ gf) (hgn : gn ≠ gf) :
    Calls Try.prog 48 #[.pointer (some ⟨gf, 0, none⟩), .pointer (some ⟨gb, 0, none⟩), .pointer (some ⟨gd, 0, none⟩), .pointer (some ⟨gn, 0, none⟩)] w (ClP w gf p m n left writes (nput fs k ⟨f.b ++ b, f.safe, f.kept⟩)) := by
  have f0 := cell_blk hf 0
  simp only [List.getElem?_toArray, List.getElem?_cons_succ, List.getElem?_cons_zero] at f0
  have HF := Lib.hid hf; have HR := Lib.hid h; have HN := Lib.hid hn; have HA := Lib.hid hA; have HC := Lib.hid hC; have HA0 := Lib.hid hA0; have HC0 := Lib.hid hC0; have HL := Lib.hid hl; have HL2 := Lib.hid hl2; have HD := Lib.hid hd; have HS := Lib.hid hs
  have HSF := Lib.hid hsafe; have HLEN := Lib.hid hlen
  clear hf h hn hA hC hA0 hC0 hl hl2 hd hs hsafe
  go_enter Try.func48, Try.ntmps48
  go_wp2_with fail
  obtain ⟨b0_, hb_⟩ := boxes1 w (.cells #[.slice A len cap, .slice C len2 capb] 29)
  generalize w.alloc (.cells #[.slice A len cap, .slice C len2 capb] 29) = w1 at *
  have T0 : Hid (∀ W, Below w1.heap.size w1 W → W.cell? ⟨w.heap.size, 0, none⟩ = some (.slice A len cap) ∧ W.cell? ⟨w.heap.size, 1, none⟩ = some (.slice C len2 capb)) := Lib.hid (fun W hW => by have e := (hW.block _ (lt_blk b0_)).trans b0_; exact ⟨by rw [cell_blk e]; rfl, by rw [cell_blk e]; rfl⟩)
  have HB := Lib.hid hb_
  clear hb_ b0_
  have t0 := T0.out w1 (Below.refl _ _)
  have HCC := Lib.hid (concat_at w.heap.size f.b b len len2 HL.out HL2.out (by omega) (by omega) A C cap capb w1 t0.1 t0.2 (cell_lt t0.1) ((HA.out.below HB.out).more HB.out.size) ((HC.out.below HB.out).more HB.out.size) HA0.out HC0.out)
  clear t0 f0
  refine HCC.out.mono ?_
  rintro e w2 ⟨v, rfl, ho, hb2⟩
  obtain ⟨A2, c2, rfl, hrd, hA2, hcap2⟩ := own_rdS ho
  have HB2 := Lib.hid (HB.out.trans (hb2.mono HB.out.size))
  have HBS := Lib.hid hrd.bs
  have HA2 := Lib.hid hA2
  have HCAP := Lib.hid hcap2
  clear ho hb2 hrd hA2 hcap2
  have hf2 := (HB2.out.block gf (lt_blk HF.out)).trans HF.out
  have f0 := cell_blk hf2 0
  simp only [List.getElem?_toArray, List.getElem?_cons_succ, List.getElem?_cons_zero] at f0
  have fz := fun i => free_blk hf2 i
  have HF2 := Lib.hid hf2
  clear hf2
  have f0' := f0
  go_upto_region 1 with (fail)
  have HR3 := Lib.hid ((HR.out.below HB2.out).set f0 rfl hgp (.slice A2 (len + len2) c2))
  have HF3 := Lib.hid (set_blk HF2.out 0 (.slice A2 (len + len2) c2))
  have HBS3 := Lib.hid (HBS.out.set f0 rfl (v := .slice A2 (len + len2) c2))
  have HW3 := Lib.hid ((((Ow.refl w gf).below HB2.out)).set 0 (.slice A2 (len + len2) c2))
  have d2 : (w2.setCell ⟨gf, 0, none⟩ (.slice A2 (len + len2) c2)).cell? ⟨gd, 0, none⟩ = some (.pointer (some ⟨p, 0, none⟩)) := (cell_set (by simp [hgd])).trans ((HB2.out.cell (p := ⟨gd, 0, none⟩) (cell_lt HD.out)).trans HD.out)
  have n2 : (w2.setCell ⟨gf, 0, none⟩ (.slice A2 (len + len2) c2)).cell? ⟨gn, 0, none⟩ = some (.string (str k)) := (cell_set (by simp [hgn])).trans ((HB2.out.cell (p := ⟨gn, 0, none⟩) (cell_lt HS.out)).trans HS.out)
  have hsz : (w2.setCell ⟨gf, 0, none⟩ (.slice A2 (len + len2) c2)).heap.size = w2.heap.size := World.size_setCell _ _ _
  generalize w2.setCell ⟨gf, 0, none⟩ (.slice A2 (len + len2) c2) = W2 at *
  have HV3 : Hid (FileV W2 (.agg #[.slice A2 (len + len2 : Nat) c2, .int .i64 f.safe, .bool f.kept]) ⟨f.b ++ b, f.safe, f.kept⟩) := Lib.hid ⟨A2, c2, by simp [HL.out, HL2.out], by rw [hsz]; exact HBS3.out, by simp [← HL.out, ← HL2.out]; exact HCAP.out, by have := HSF.out; simp; omega, by have h1 := HLEN.out; have h2 := HL.out; have h3 := HL2.out; simp only [List.length_append]; omega, fun h => by have h1 := HA2.out h; have := HL.out; have := HL2.out; exact List.eq_nil_of_length_eq_zero (by rw [List.length_append]; omega)⟩
  clear f0 f0' fz hsz
  have HC : Hid (∀ W, Below W2.heap.size W2 W → W.cell? ⟨gd, 0, none⟩ = some (.pointer (some ⟨p, 0, none⟩)) ∧ W.cell? ⟨gn, 0, none⟩ = some (.string (str k)) ∧ W.cell? ⟨p, 1, none⟩ = some (.map (some m)) ∧ W.cell? ⟨gf, 0, none⟩ = some (.slice A2 (len + len2) c2) ∧ W.cell? ⟨gf, 1, none⟩ = some (.int .i64 f.safe) ∧ W.cell? ⟨gf, 2, none⟩ = some (.bool f.kept)) := Lib.hid fun W h => by
    have a1 := cell_blk ((h.block _ (lt_blk HF3.out)).trans HF3.out)
    have a2 := cell_blk ((h.block _ HR3.out.lt).trans HR3.out.own) 1
    exact ⟨(h.cell (p := ⟨gd, 0, none⟩) (cell_lt d2)).trans d2, (h.cell (p := ⟨gn, 0, none⟩) (cell_lt n2)).trans n2, a2, a1 0, a1 1, a1 2⟩
  clear d2 n2
  apply wp_region_relH (H := []) 6 [(Sum.inl _ : TT), (Sum.inl _ : TT), (Sum.inl _ : TT), (Sum.inl _ : TT), (Sum.inl _ : TT), (Sum.inl _ : TT)] (by kernel_rfl) (by kernel_rfl) (fun _ _ _ _ _ h => h) rfl
  simp only [List.take_succ_cons, List.take_zero, List.drop_succ_cons, List.drop_zero]
  iterate 6 (apply rel_isS; (intro W hW hf; obtain ⟨x1, x2, x3, x4, x5, x6⟩ := HC.out W hW; go_simp; first | exact ⟨StayS.refl _ _, rfl⟩ | rfl); simp only [Act.put, List.setIfInBounds_toArray, List.set_cons_succ, List.set_cons_zero])
  refine rel_endS ?_
  intro W hW hf
  try simp only [Act.put, List.setIfInBounds_toArray, List.set_cons_succ, List.set_cons_zero]
  have HR4 := Lib.hid (HR3.out.below hW)
  have HV4 := Lib.hid (HV3.out.below hW)
  go_wp2_with (at_mapUpdate; refine wpList_layD HR4.out HN.out k hk _ _ HV4.out rfl _ _ _ rfl rfl rfl rfl ?_; intro w5 h5 h6; have H5 := Lib.hid h5; have H6 := Lib.hid h6; clear h5 h6)
  go_end0
  exact ⟨rfl, H5.out, ((HW3.out.below hW).dw m).then H6.out⟩
end Go.Proofs.Ytdmodhcbcpmadaa
