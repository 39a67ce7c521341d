/- the digest's text, by the program. -/
import Derived.Test.YtkdkpnidiehdfaaDoorLb
import Derived.Test.YtkdkpnidiehdfaaDoorReld
import Derived.Test.YtkdkpnidiehdfaaDoorText
set_option linter.unusedSimpArgs false
set_option linter.unusedVariables false
namespace Go.Proofs.YtkdkpnidiehdfaaDoor
open Go.RowKit

set_option maxRecDepth 100000 in
set_option maxHeartbeats 1000000 in
theorem text_any (l : List UInt8) (hl : l.length = 32) (w : World) :
    Calls Tryd.prog 34 #[dg l] w fun e w' => e = .returned (.string (str (text l))) ∧ Below w.heap.size w w' := by
  have HL : Hid (∀ i, i < 32 → (bcells l).toArray[i]? = some (.int .u8 (l.getD i 0).toNat)) := Lib.hid (fun i hi => by simp [bcells, List.getD_eq_getElem?_getD, hl, hi])
  have Hsz : Hid ((bcells l).toArray.size = 32) := Lib.hid (by simp [bcells, hl])
  unfold dg
  generalize (bcells l).toArray = xs at HL Hsz
  go_enter Tryd.func34, Tryd.ntmps34
  go_upto_region 2 with (fail)
  generalize hw2 : World.alloc _ _ = w2
  have Hx : Hid (w2.heap[w.heap.size]? = some (.cells xs 25 (0, 0))) := Lib.hid (by subst hw2; exact heap_alloc_new _ _)
  have Hb : Hid (Below w.heap.size w w2) := Lib.hid (by subst hw2; exact (Below.refl _ _).alloc (Nat.le_refl _) _)
  clear hw2
  go_wp2_with (refine wpList_load_row (o := ⟨some 6, .load 25 (.tmp 1), _, _, _, _⟩) rfl _ _ rfl w.heap.size rfl _ xs (0, 0) _ Hx.out Tryd.underlying25 rfl (by rw [Hsz.out]; kernel_rfl) ?_)
  go_loopw [3, 7] (fun v i wr => ∃ t : Nat, t ≤ 32 ∧ i = .int .i64 t ∧ wr.ownsRow w2.heap.size 5 1 v (text (l.take t)).length (bcells (text (l.take t))) ∧ Below w2.heap.size w2 wr) (fun _ i _ => 32 - (intOf i).toNat)
  case atStart => exact ⟨0, by omega, rfl, World.ownsRow_nil _ _ _ _, Below.refl _ _⟩
  case round =>
    obtain ⟨t, ht, rfl, hown, hb⟩ := hrel
    by_cases hlt : t < 32
    · have Hown := Lib.hid hown
      have Hbr := Lib.hid hb
      clear hown hb
      have hix := fun W => run_index_cell (P := Tryd.prog) Tryd.underlying25 Tryd.underlying5 (by kernel_rfl) xs t hlt _ (HL.out t hlt) W
      have Htk := Lib.hid (text_take l t (by omega))
      generalize l.getD t 0 = c at hix Htk
      have hc := u8_lt c
      have s1 := u8_shr4 c
      have s2 : bits BinOp.and .u8 (c.toNat : Int) 15 = (c.toNat : Int) % 16 := (u8_and c 15).trans (by rw [u8_and15]; simp)
      have Hon := Lib.hid (own_length Hown.out)
      have Htl : Hid ((text (l.take t)).length ≤ 1000) := Lib.hid (by rw [text_length]; simp; omega)
      go_wp2_with fail
      apply wp_region_rel 8 [.inl _, .inl _, .inl _, .inl _, .inl _, .inl _, .inl _, .inr (SlB (hexs c))] (by kernel_rfl) (by kernel_rfl) rfl
      simp only [List.take_succ_cons, List.take_zero, List.drop_succ_cons, List.drop_zero]
      iterate 3 (apply rel_is; (intro W hW hf; go_simp; exact ⟨Stay.refl _ _, rfl⟩); simp only [Act.put, List.setIfInBounds_toArray, List.set_cons_succ, List.set_cons_zero])
      apply rel_is
      · exact (fun W hW hf => rel_index_str rfl rfl Tryd.underlying9 rfl rfl (c.toNat / 16) (by simp) (by show c.toNat / 16 < 16; omega) (hexd (c / 16)) (digit_lit _ _ (by simp) (by omega)))
      simp only [Act.put, List.setIfInBounds_toArray, List.set_cons_succ, List.set_cons_zero]
      iterate 2 (apply rel_is; (intro W hW hf; go_simp; exact ⟨Stay.refl _ _, rfl⟩); simp only [Act.put, List.setIfInBounds_toArray, List.set_cons_succ, List.set_cons_zero])
      apply rel_is
      · exact (fun W hW hf => rel_index_str rfl rfl Tryd.underlying9 rfl rfl (c.toNat % 16) (by simp) (by show c.toNat % 16 < 16; omega) (hexd (c % 16)) (digit_lit _ _ (by simp) (by omega)))
      simp only [Act.put, List.setIfInBounds_toArray, List.set_cons_succ, List.set_cons_zero]
      refine rel_fits (fun W hW hf => ?_) (SlB.keeps _) fun v => ?_
      · go_simp
        exact ⟨Stay.alloc hW _, SlB.new _ _ _ _ _ _ rfl rfl⟩
      refine rel_end ?_
      intro W hW hf
      have h17 := hf (17, SlB (hexs c) v) (by simp)
      obtain ⟨A, cap, rfl, hrd, hnil⟩ := SlB.rd h17
      have Hrd := Lib.hid hrd
      have Hnil := Lib.hid hnil
      have HW := Lib.hid hW
      clear hf h17 hrd hnil hW
      simp only [Act.put, List.setIfInBounds_toArray, List.set_cons_succ, List.set_cons_zero]
      refine wpList_append_src E5 rfl (.tmp 10) (.tmp 17) rfl w2.heap.size _ _ _ rfl (own_below Hown.out HW.out) W.heap.size A (bcells (hexs c)) _ cap rfl (bcells_length _) Hrd.out Hnil.out (bcells_one _) (by have := Htl.out; simp [hexs]; omega) (by omega) w2 (Nat.le_refl _) (Hbr.out.trans (HW.out.mono Hbr.out.size)) ?_
      intro v' w' h2 h3 h4 h5; clear h4 h5; have H2 := Lib.hid h2; have H3 := Lib.hid h3; clear h2 h3
      go_wp2_with fail
      go_roundw
      case rel => exact ⟨t + 1, by omega, by go_num, by rw [Htk.out, bcells_app, List.length_append]; exact H2.out, H3.out⟩
      case measure => simp [intOf]; omega
    · obtain rfl : t = 32 := by omega
      have Hful : Hid (text (l.take 32) = text l) := Lib.hid (by rw [List.take_of_length_le (by omega)])
      rw [Hful.out] at hown
      obtain ⟨A, cap, rfl, hrd, hnil, _⟩ := own_rd hown
      have hcv := fun W (hW : ∀ b o, b < wr.heap.size → W.cell? ⟨b, o, none⟩ = wr.cell? ⟨b, o, none⟩) => run_conv_bytes W 22 5 9 Tryd.underlying22 Tryd.underlying5 Tryd.underlying9 wr.heap.size A (text l) _ cap rfl (hrd.bs.keep hW) (fun h => List.eq_nil_of_length_eq_zero (hnil h))
      have hcv := hcv wr (fun _ _ _ => rfl)
      have Hbr := Lib.hid hb
      clear hown hrd hnil hb
      go_wp2_with fail
      go_ret
      exact ⟨rfl, Hb.out.trans (Hbr.out.mono Hb.out.size)⟩
end Go.Proofs.YtkdkpnidiehdfaaDoor
