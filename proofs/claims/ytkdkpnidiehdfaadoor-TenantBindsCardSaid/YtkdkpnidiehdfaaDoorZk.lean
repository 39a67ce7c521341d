/- assizekit.SameInts, of any two lists. -/
import Derived.Test.YtkdkpnidiehdfaaDoorZu
set_option linter.unusedSimpArgs false
set_option linter.unusedVariables false
namespace Go.Proofs.YtkdkpnidiehdfaaDoor
open Go.RowKit

theorem take_more {α : Type} [DecidableEq α] {la lb : List α} {k : Nat} (d : α) (h1 : k < la.length) (h2 : k < lb.length) (h : la.take k = lb.take k) (he : la.getD k d = lb.getD k d) : la.take (k + 1) = lb.take (k + 1) := by
  rw [List.take_succ_eq_append_getElem h1, List.take_succ_eq_append_getElem h2, h]
  congr 2
  simpa [List.getD_eq_getElem?_getD, h1, h2] using he
theorem rd_int {w : World} {B : Nat} {A : Option Addr} {l : List Int} (h : Rd w B A (l.map encZ)) (k : Nat) (hk : k < l.length) : ∃ b o, A = some ⟨b, o, none⟩ ∧ b < B ∧ w.cell? ⟨b, o + k, none⟩ = some (.int .i64 (l.getD k 0)) := by
  obtain ⟨b, o, e, hb, hc⟩ := h k (encZ (l.getD k 0)) (by simp [List.getD_eq_getElem?_getD, hk])
  exact ⟨b, o, e, hb, hc⟩
set_option maxRecDepth 100000 in
set_option maxHeartbeats 4000000 in
theorem ints_same (la lb : List Int) (n1 n2 : Nat) (h1 : n1 = la.length) (h2 : n2 = lb.length) (hl : n1 ≤ 1000000000) (hl2 : n2 ≤ 1000000000) (A A' : Option Addr) (c c' : Nat) (w : World) (hA : Rd w w.heap.size A (la.map encZ)) (hA' : Rd w w.heap.size A' (lb.map encZ)) :
    Calls Tryd.prog 40 #[.slice A n1 c, .slice A' n2 c'] w fun e w' => e = .returned (.bool (decide (la = lb))) ∧ Below w.heap.size w w' := by
  have HA := Lib.hid (rd_int hA); have HA' := Lib.hid (rd_int hA'); have H1 := Lib.hid h1; have H2 := Lib.hid h2
  clear hA hA' h1 h2
  by_cases hne : n1 = n2
  · subst hne
    go_enter Tryd.func40, Tryd.ntmps40
    go_wp2_with fail
    go_loopw [5] (fun i wr => ∃ k : Nat, k ≤ n1 ∧ i = .int .i64 k ∧ la.take k = lb.take k ∧ Below w.heap.size w wr) (fun i _ => n1 - (RowKit.intOf i).toNat)
    case atStart => exact ⟨0, by omega, rfl, rfl, Below.refl _ _⟩
    case round =>
      obtain ⟨k, hk, rfl, htk, hb⟩ := hrel
      have Hb := Lib.hid hb; have HTK := Lib.hid htk
      clear hb htk
      by_cases hlt : k < n1
      · have hk1 : Hid (k < la.length) := Lib.hid (by have := H1.out; omega)
        have hk2 : Hid (k < lb.length) := Lib.hid (by have := H2.out; omega)
        obtain ⟨b, o, rfl, h0, h1⟩ := HA.out k hk1.out
        obtain ⟨b', o', rfl, h0', h2⟩ := HA'.out k hk2.out
        have T : Hid (∀ W, Below wr.heap.size wr W → W.cell? ⟨b, o + k, none⟩ = some (.int .i64 (la.getD k 0)) ∧ W.cell? ⟨b', o' + k, none⟩ = some (.int .i64 (lb.getD k 0))) := Lib.hid (fun W hW => by
          have hW := Hb.out.trans (hW.mono Hb.out.size)
          exact ⟨(hW.cell (p := ⟨b, o + k, none⟩) h0).trans h1, (hW.cell (p := ⟨b', o' + k, none⟩) h0').trans h2⟩)
        have HM := Lib.hid (take_more (0 : Int) hk1.out hk2.out HTK.out)
        have HX : Hid (la = lb → la.getD k 0 = lb.getD k 0) := Lib.hid (fun e => by rw [e])
        clear h1 h2
        generalize la.getD k 0 = x at *
        generalize lb.getD k 0 = y at *
        by_cases he : x = y
        · have HM2 := Lib.hid (HM.out he)
          have g1 : (x != y) = false := by rw [he]; simp
          have g2 : (x == y) = true := by rw [he]; simp
          go_upto_region 6 with (fail)
          apply wp_region_relS 9 [(Sum.inl _ : TT), (Sum.inl _ : TT), (Sum.inl _ : TT), (Sum.inl _ : TT), (Sum.inl _ : TT), (Sum.inl _ : TT), (Sum.inl _ : TT), (Sum.inl _ : TT), (Sum.inl _ : TT)] (by kernel_rfl) (by kernel_rfl) rfl
          simp only [List.take_succ_cons, List.take_zero, List.drop_succ_cons, List.drop_zero]
          iterate 9 (apply rel_isS; (intro W hW hf; obtain ⟨hx1, hx2⟩ := T.out W hW; go_simp; first | exact ⟨StayS.refl _ _, rfl⟩ | rfl); simp only [Act.put, List.setIfInBounds_toArray, List.set_cons_succ, List.set_cons_zero])
          refine rel_endS ?_
          intro W hW hf
          try simp only [Act.put, List.setIfInBounds_toArray, List.set_cons_succ, List.set_cons_zero]
          have HW := Lib.hid (Hb.out.trans (hW.mono Hb.out.size))
          clear hW hf
          go_wp2_with fail
          go_roundw
          case rel => exact ⟨k + 1, by omega, by go_num, HM2.out, HW.out⟩
          case measure => simp [RowKit.intOf]; omega
        · have HF : Hid (decide (la = lb) = false) := Lib.hid (decide_eq_false fun e => he (HX.out e))
          have g1 : (x != y) = true := by rw [bne_iff_ne]; exact he
          have g2 : (x == y) = false := by rw [beq_eq_false_iff_ne]; exact he
          go_upto_region 6 with (fail)
          apply wp_region_relS 9 [(Sum.inl _ : TT), (Sum.inl _ : TT), (Sum.inl _ : TT), (Sum.inl _ : TT), (Sum.inl _ : TT), (Sum.inl _ : TT), (Sum.inl _ : TT), (Sum.inl _ : TT), (Sum.inl _ : TT)] (by kernel_rfl) (by kernel_rfl) rfl
          simp only [List.take_succ_cons, List.take_zero, List.drop_succ_cons, List.drop_zero]
          iterate 9 (apply rel_isS; (intro W hW hf; obtain ⟨hx1, hx2⟩ := T.out W hW; go_simp; first | exact ⟨StayS.refl _ _, rfl⟩ | rfl); simp only [Act.put, List.setIfInBounds_toArray, List.set_cons_succ, List.set_cons_zero])
          refine rel_endS ?_
          intro W hW hf
          try simp only [Act.put, List.setIfInBounds_toArray, List.set_cons_succ, List.set_cons_zero]
          have HW := Lib.hid (Hb.out.trans (hW.mono Hb.out.size))
          clear hW hf
          go_wp2_with fail
          go_ret
          exact ⟨ret_bool (by rw [HF.out]), HW.out⟩
      · obtain rfl : k = n1 := by omega
        have HE : Hid (decide (la = lb) = true) := Lib.hid (decide_eq_true (by
          have := HTK.out
          rwa [List.take_of_length_le (by rw [← H1.out]; exact Nat.le_refl _), List.take_of_length_le (by rw [← H2.out]; exact Nat.le_refl _)] at this))
        go_wp2_with fail
        go_ret
        exact ⟨ret_bool (by rw [HE.out]), Hb.out⟩
  · have HF : Hid (decide (la = lb) = false) := Lib.hid (decide_eq_false fun e => hne (by rw [H1.out, H2.out, e]))
    have g1 : ((n1 : Int) != (n2 : Int)) = true := by rw [bne_iff_ne]; omega
    go_enter Tryd.func40, Tryd.ntmps40
    go_wp2_with fail
    go_ret
    exact ⟨ret_bool (by rw [HF.out]), Below.refl _ _⟩
end Go.Proofs.YtkdkpnidiehdfaaDoor
