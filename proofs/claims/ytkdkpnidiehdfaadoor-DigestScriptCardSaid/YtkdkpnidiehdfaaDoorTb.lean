/- the digest's text, by the reference. -/
import Derived.Test.YtkdkpnidiehdfaaDoorTa
set_option linter.unusedSimpArgs false
set_option linter.unusedVariables false
namespace Go.Proofs.YtkdkpnidiehdfaaDoor
open Go.RowKit

theorem u8_lt16 (c : UInt8) (h : c.toNat < 16) : (hexd c).toNat = if c.toNat < 10 then c.toNat + 48 else c.toNat + 87 := by
  have : ∀ n : Fin 16, (hexd (UInt8.ofNat n.val)).toNat = if n.val < 10 then n.val + 48 else n.val + 87 := by decide
  have h2 := this ⟨c.toNat, h⟩
  simpa using h2
set_option maxHeartbeats 400000 in
theorem digit_any (c : UInt8) (h : c.toNat < 16) (w : World) : Calls Tryd.prog 62 #[.int .u8 c.toNat] w fun e w' => e = .returned (.int .u8 (hexd c).toNat) ∧ w = w' := by
  have hv := u8_lt16 c h
  by_cases hl : c.toNat < 10
  · rw [if_pos hl] at hv
    have Hv := Lib.hid hv
    clear hv
    go_enter Tryd.func62, Tryd.ntmps62
    go_wp2
    go_ret
    exact ⟨ret_int (by rw [Hv.out]; simp [IntKind.wrap, IntKind.bits, IntKind.signed]; omega), rfl⟩
  · rw [if_neg hl] at hv
    have Hv := Lib.hid hv
    clear hv
    go_enter Tryd.func62, Tryd.ntmps62
    go_wp2
    go_ret
    exact ⟨ret_int (by rw [Hv.out]; simp [IntKind.wrap, IntKind.bits, IntKind.signed]; omega), rfl⟩

theorem digit_int (x : Int) (c : UInt8) (hx : x = c.toNat) (h : c.toNat < 16) (w : World) : Calls Tryd.prog 62 #[.int .u8 x] w fun e w' => e = .returned (.int .u8 (hexd c).toNat) ∧ w = w' := by
  subst hx; exact digit_any c h w
set_option maxRecDepth 100000 in
set_option maxHeartbeats 1000000 in
theorem text_ref (l : List UInt8) (hl : l.length = 32) (w : World) :
    Calls Tryd.prog 35 #[dg l] w fun e w' => e = .returned (.string (str (text l))) ∧ Below w.heap.size w w' := by
  have HL : Hid (∀ i, i < 32 → (bcells l).toArray[i]? = some (.int .u8 (l.getD i 0).toNat)) := Lib.hid (fun i hi => by simp [bcells, List.getD_eq_getElem?_getD, hl, hi])
  unfold dg
  generalize (bcells l).toArray = xs at HL
  go_enter Tryd.func35, Tryd.ntmps35
  go_upto_region 2 with (fail)
  generalize hw2 : World.alloc _ _ = w2
  have Hx : Hid (w2.heap[w.heap.size]? = some (.cells xs 25 (0, 0))) := Lib.hid (by subst hw2; exact heap_alloc_new _ _)
  have Hb : Hid (Below w.heap.size w w2) := Lib.hid (by subst hw2; exact (Below.refl _ _).alloc (Nat.le_refl _) _)
  have Hr : Hid (w.heap.size < w2.heap.size) := Lib.hid (by subst hw2; simp)
  clear hw2
  go_wp2_with fail
  go_loopw [3, 4] (fun v i wr => ∃ t : Nat, t ≤ 32 ∧ i = .int .i64 t ∧ wr.ownsRow w2.heap.size 5 1 v (text (l.take t)).length (bcells (text (l.take t))) ∧ Below w2.heap.size w2 wr) (fun _ i _ => 32 - (intOf i).toNat)
  case atStart => exact ⟨0, by omega, rfl, World.ownsRow_nil _ _ _ _, Below.refl _ _⟩
  case round =>
    obtain ⟨t, ht, rfl, hown, hb⟩ := hrel
    by_cases hlt : t < 32
    · have Hown := Lib.hid hown
      have Hbr := Lib.hid hb
      clear hown hb
      have Hc : Hid (∀ W, Below wr.heap.size wr W → W.cell? ⟨w.heap.size, t, none⟩ = some (.int .u8 (l.getD t 0).toNat)) := Lib.hid (fun W hW => by
        rw [hW.cell (p := ⟨w.heap.size, t, none⟩) (Nat.lt_of_lt_of_le Hr.out Hbr.out.size), Hbr.out.cell (p := ⟨w.heap.size, t, none⟩) Hr.out, cell_blk Hx.out, HL.out t hlt])
      have Htk := Lib.hid (text_take l t (by omega))
      generalize l.getD t 0 = c at Hc Htk
      have hc := u8_lt c
      have t1 : (c.toNat : Int).tdiv 16 = (c.toNat : Int) / 16 := Int.tdiv_eq_ediv_of_nonneg (by omega)
      have t3 : IntKind.u8.wrap ((c.toNat : Int) / 16) = (c.toNat : Int) / 16 := by simp [IntKind.wrap, IntKind.bits, IntKind.signed]; omega
      have t2 : (c.toNat : Int).tmod 16 = (c.toNat : Int) % 16 := Int.tmod_eq_emod_of_nonneg (by omega)
      have Hon := Lib.hid (own_length Hown.out)
      have Htl : Hid ((text (l.take t)).length ≤ 1000) := Lib.hid (by rw [text_length]; simp; omega)
      go_wp2_with fail
      apply wp_region_rel 12 [.inl _, .inl _, .inl _, .inl _, .inl _, .inl _, .inl _, .inl _, .inl _, .inl _, .inl _, .inr (SlB (hexs c))] (by kernel_rfl) (by kernel_rfl) rfl
      simp only [List.take_succ_cons, List.take_zero, List.drop_succ_cons, List.drop_zero]
      iterate 5 (apply rel_is; (intro W hW hf; have hcell := Hc.out W hW; go_simp; exact ⟨Stay.refl _ _, rfl⟩); simp only [Act.put, List.setIfInBounds_toArray, List.set_cons_succ, List.set_cons_zero])
      apply rel_is
      · intro W hW hf
        refine rel_call hW rfl (f := 62) (args := #[.int .u8 ((c.toNat : Int) / 16)]) (by go_simp) ?_
        exact (digit_int _ (c / 16) (by simp) (by simp; omega) W).mono fun e w' ⟨he, hw⟩ => ⟨_, he, by subst hw; exact Below.refl _ _, rfl⟩
      simp only [Act.put, List.setIfInBounds_toArray, List.set_cons_succ, List.set_cons_zero]
      iterate 4 (apply rel_is; (intro W hW hf; have hcell := Hc.out W hW; go_simp; exact ⟨Stay.refl _ _, rfl⟩); simp only [Act.put, List.setIfInBounds_toArray, List.set_cons_succ, List.set_cons_zero])
      apply rel_is
      · intro W hW hf
        refine rel_call hW rfl (f := 62) (args := #[.int .u8 ((c.toNat : Int) % 16)]) (by go_simp) ?_
        exact (digit_int _ (c % 16) (by simp) (by simp; omega) W).mono fun e w' ⟨he, hw⟩ => ⟨_, he, by subst hw; exact Below.refl _ _, rfl⟩
      simp only [Act.put, List.setIfInBounds_toArray, List.set_cons_succ, List.set_cons_zero]
      refine rel_fits (fun W hW hf => ?_) (SlB.keeps _) fun v => ?_
      · go_simp
        exact ⟨Stay.alloc hW _, SlB.new _ _ _ _ _ _ rfl rfl⟩
      refine rel_end ?_
      intro W hW hf
      have h17 := hf (20, SlB (hexs c) v) (by simp)
      obtain ⟨A, cap, rfl, hrd, hnil⟩ := SlB.rd h17
      have Hrd := Lib.hid hrd
      have Hnil := Lib.hid hnil
      have HW := Lib.hid hW
      clear hf h17 hrd hnil hW
      simp only [Act.put, List.setIfInBounds_toArray, List.set_cons_succ, List.set_cons_zero]
      refine wpList_append_src E5 rfl (.tmp 9) (.tmp 20) rfl w2.heap.size _ _ _ rfl (own_below Hown.out HW.out) W.heap.size A (bcells (hexs c)) _ cap rfl (bcells_length _) Hrd.out Hnil.out (bcells_one _) (by have := Htl.out; simp [hexs]; omega) (by omega) w2 (Nat.le_refl _) (Hbr.out.trans (HW.out.mono Hbr.out.size)) ?_
      intro v' w' h2 h3 h4 h5; clear h4 h5; have H2 := Lib.hid h2; have H3 := Lib.hid h3; clear h2 h3
      go_wp2_with fail
      go_roundw
      case rel => exact ⟨t + 1, by omega, by go_num, by rw [Htk.out, bcells_app, List.length_append]; exact H2.out, H3.out⟩
      case measure => simp [intOf]; omega
    · obtain rfl : t = 32 := by omega
      have Hful : Hid (text (l.take 32) = text l) := Lib.hid (by rw [List.take_of_length_le (by omega)])
      rw [Hful.out] at hown
      obtain ⟨A, cap, rfl, hrd, hnil, _⟩ := own_rd hown
      have hcv := run_conv_bytes wr 22 5 9 Tryd.underlying22 Tryd.underlying5 Tryd.underlying9 wr.heap.size A (text l) _ cap rfl hrd.bs (fun h => List.eq_nil_of_length_eq_zero (hnil h))
      have Hbr := Lib.hid hb
      clear hown hrd hnil hb
      go_wp2_with fail
      go_ret
      exact ⟨rfl, Hb.out.trans (Hbr.out.mono Hb.out.size)⟩
end Go.Proofs.YtkdkpnidiehdfaaDoor
