/- the closure of disk.Cut. -/
import Derived.Test.YtdmodhcbcpmadaaMg6
import Derived.Test.YtdmodhcbcpmadaaBy
set_option linter.unusedSimpArgs false
set_option linter.unusedVariables false
namespace Go.Proofs.Ytdmodhcbcpmadaa
open Go.RowKit

def FileR (f : Fl) (v : Value) (w : World) : Prop := FileV w v f
theorem FileR.keepsS (f : Fl) : KeepsS (FileR f) := fun v w w' h hb => FileV.below h hb
def ClR (l : List UInt8) (n : Nat) (v : Value) (w : World) : Prop := ∃ A cap, v = .slice A n cap ∧ Bs w w.heap.size A l ∧ (A = none → l = []) ∧ n ≤ cap
theorem ClR.keepsS (l : List UInt8) (n : Nat) : KeepsS (ClR l n) := fun v w w' h hb => by
  obtain ⟨A, cap, h1, h2, h3⟩ := h
  exact ⟨A, cap, h1, (h2.below hb).more hb.size, h3⟩
theorem Bs.take {w : World} {B : Nat} {A : Option Addr} {l : List UInt8} (h : Bs w B A l) (n : Nat) : Bs w B A (l.take n) := fun j hj => by
  have h1 : j < n := by simp at hj; omega
  have h2 : j < l.length := by simp at hj; omega
  obtain ⟨b, off, h3, h4, h5⟩ := h j h2
  refine ⟨b, off, h3, h4, ?_⟩
  rw [h5]
  simp [List.getD_eq_getElem?_getD, List.getElem?_take, h1]
set_option maxRecDepth 100000 in
set_option maxHeartbeats 2000000 in
theorem cut1_at {w : World} {p m n : Nat} {left : Int} {writes : Nat} {fs : Nl Fl} (h : Raw w p m n left writes fs) (hn : fs.length ≤ 1000000) (k : Nm) (hk : k.length ≤ 9223372036854775807) (gf gs gd gn : Nat) (A : Option Addr) (len cap : Nat) (f : Fl) (hl : len = f.b.length)
    (hf : w.heap[gf]? = some (.cells #[.slice A len cap, .int .i64 f.safe, .bool f.kept] 77 (0, 0))) (hA : Bs w w.heap.size A f.b) (hA0 : A = none → f.b = []) (hlen : len ≤ 67108864) (hcap : len ≤ cap) (c : Nat) (hc : c ≤ len)
    (hz : w.cell? ⟨gs, 0, none⟩ = some (.int .i64 c))
    (hd : w.cell? ⟨gd, 0, none⟩ = some (.pointer (some ⟨p, 0, none⟩))) (hs : w.cell? ⟨gn, 0, none⟩ = some (.string (str k))) :
    Calls Try.prog 63 #[.pointer (some ⟨gf, 0, none⟩), .pointer (some ⟨gs, 0, none⟩), .pointer (some ⟨gd, 0, none⟩), .pointer (some ⟨gn, 0, none⟩)] w (ClP w gf p m n left writes (nput fs k ⟨f.b.take c, c, true⟩)) := by
  have HR := Lib.hid h; have HN := Lib.hid hn
  have HC : Hid (∀ W, Below w.heap.size w W → W.cell? ⟨gd, 0, none⟩ = some (.pointer (some ⟨p, 0, none⟩)) ∧ W.cell? ⟨gn, 0, none⟩ = some (.string (str k)) ∧ W.cell? ⟨p, 1, none⟩ = some (.map (some m)) ∧ W.cell? ⟨gf, 0, none⟩ = some (.slice A len cap) ∧ W.cell? ⟨gs, 0, none⟩ = some (.int .i64 c)) := Lib.hid fun W h => by
    have a1 := cell_blk ((h.block _ (lt_blk hf)).trans hf)
    have a2 := cell_blk ((h.block _ HR.out.lt).trans HR.out.own) 1
    exact ⟨(h.cell (p := ⟨gd, 0, none⟩) (cell_lt hd)).trans hd, (h.cell (p := ⟨gn, 0, none⟩) (cell_lt hs)).trans hs, a2, a1 0, (h.cell (p := ⟨gs, 0, none⟩) (cell_lt hz)).trans hz⟩
  have ht : (f.b.take c).length = c := by rw [List.length_take]; omega
  have HT := Lib.hid ht
  have HCL : Hid (∀ W, Below w.heap.size w W → Calls Try.prog 64 #[.slice A c cap] W fun e w' => ∃ v, e = .returned v ∧ Below W.heap.size W w' ∧ ClR (f.b.take c) c v w') := Lib.hid fun W h => by
    have h1 := clone_bytes (f.b.take c) (by omega) A cap w.heap.size W ((hA.below h).take c) (fun h => by rw [hA0 h]; simp) h.size
    rw [ht] at h1
    refine h1.mono ?_
    rintro e w' ⟨A', cap', rfl, h2, h3, h4, h5⟩
    rw [ht] at h4 ⊢
    exact ⟨_, rfl, h5, A', cap', rfl, h2, h3, h4⟩
  have hcc : c ≤ cap := by omega
  have hc63 : c ≤ 67108864 := by omega
  clear h hd hs hf hn hA hA0 hl hz ht
  go_enter Try.func63, Try.ntmps63
  go_upto_region 0 with (fail)
  apply wp_region_relH (H := []) 12 [(Sum.inl _ : TT), (Sum.inl _ : TT), (Sum.inl _ : TT), (Sum.inl _ : TT), (Sum.inl _ : TT), (Sum.inl _ : TT), (Sum.inl _ : TT), (Sum.inl _ : TT), (Sum.inl _ : TT), .inr (ClR (f.b.take c) c), (Sum.inl _ : TT), .inr (FileR ⟨f.b.take c, c, true⟩)] (by kernel_rfl) (by kernel_rfl) (fun _ _ _ _ _ h => h) rfl
  simp only [List.take_succ_cons, List.take_zero, List.drop_succ_cons, List.drop_zero]
  iterate 9 (apply rel_isS; (intro W hW hf; obtain ⟨x1, x2, x3, x4, x5⟩ := HC.out W hW; go_simp; first | exact ⟨StayS.refl _ _, rfl⟩ | rfl); simp only [Act.put, List.setIfInBounds_toArray, List.set_cons_succ, List.set_cons_zero])
  refine rel_fitsS (fun W hW hf => rel_callS hW rfl (by go_simp <;> first | rfl | exact ⟨rfl, rfl⟩ | exact ⟨rfl, rfl, rfl⟩) (HCL.out W hW)) (ClR.keepsS _ _) fun v13 => ?_
  simp only [Act.put, List.setIfInBounds_toArray, List.set_cons_succ, List.set_cons_zero]
  iterate 1 (apply rel_isS; (intro W hW hf; obtain ⟨x1, x2, x3, x4, x5⟩ := HC.out W hW; go_simp; first | exact ⟨StayS.refl _ _, rfl⟩ | rfl); simp only [Act.put, List.setIfInBounds_toArray, List.set_cons_succ, List.set_cons_zero])
  refine rel_fitsS (fun W hW hf => ?_) (FileR.keepsS _) fun v15 => ?_
  · have h := hf (13, ClR (f.b.take c) c v13) (by simp) (by simp [Oper.looksAt, Op.operands, Call.operands])
    obtain ⟨A', cap', rfl, h2, h3, h4⟩ := h
    go_simp
    exact ⟨StayS.refl _ _, A', cap', by simp only [HT.out], h2, by simp only [HT.out]; exact h4, by simp only [HT.out]; exact Nat.le_refl _, by simp only [HT.out]; exact hc63, h3⟩
  simp only [Act.put, List.setIfInBounds_toArray, List.set_cons_succ, List.set_cons_zero]
  refine rel_endS ?_
  intro W hW hf
  try simp only [Act.put, List.setIfInBounds_toArray, List.set_cons_succ, List.set_cons_zero]
  have hv := hf (15, FileR ⟨f.b.take c, c, true⟩ v15) (by simp)
  have HV := Lib.hid hv
  have HR3 := Lib.hid (HR.out.below hW)
  clear hf hv
  go_wp2_with (at_mapUpdate; refine wpList_layD HR3.out HN.out k hk _ _ HV.out rfl _ _ _ rfl rfl rfl rfl ?_; intro w5 h5 h6; have H5 := Lib.hid h5; have H6 := Lib.hid h6; clear h5 h6)
  go_end0
  exact ⟨rfl, H5.out, (Dw.of_below hW).then H6.out⟩
end Go.Proofs.Ytdmodhcbcpmadaa
