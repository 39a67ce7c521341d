/- the chapter's examples of frames. -/
import Derived.Test.YtblccebcmfpjeaaPc
set_option linter.unusedSimpArgs false
set_option linter.unusedVariables false
namespace Go.Proofs.Ytblccebcmfpjeaa
open Go.RowKit

theorem kn1 : (frameL [7]).take 9 = [0, 0, 0, 1, 255, 255, 255, 254, 7] := by decide +kernel
theorem kn2 : scanL (frameL [7] ++ [0, 0]) = ([[7]], 13, 1) := by decide +kernel
theorem kn3 : scanL [0, 0, 0, 1, 255, 255, 255, 255] = ([], 0, 2) := by decide +kernel
theorem kn4 : oneL (frameL [7] ++ [0]) = none := by decide +kernel
theorem kn5 : check [] = 0 := by decide +kernel
theorem kn6 : (frameL [7]).length = 13 := by rw [frame_length]; rfl
set_option maxRecDepth 100000 in
set_option maxHeartbeats 4000000 in
theorem known20_walk (w : World) : Calls Try.prog 7 #[] w fun e w' => e = .returned (.bool true) ∧ Below w.heap.size w w' := by
  go_enter Try.func7, Try.ntmps7
  go_wp2_with fail
  generalize hW : World.alloc _ _ = W0
  have HB0 : Hid (Below w.heap.size w W0) := Lib.hid (by subst hW; exact below_alloc _ _)
  have Hb0 : Hid (Bs W0 W0.heap.size (some ⟨w.heap.size, 0, none⟩) [7]) := Lib.hid (by subst hW; exact Bs.new _ _ _ _ _ rfl)
  clear hW
  refine (frame_any [7] (by decide) _ 1 W0 Hb0.out (by intro h; cases h)).mono ?_
  rintro e w1 ⟨v1, rfl, ho1, hb1⟩
  obtain ⟨A1, cg, rfl, hr1, hn1, hc1⟩ := own_rd ho1
  obtain ⟨g, cg', cur, e3, _⟩ := own_blk ho1 (by decide)
  injection e3 with e3 _ e4
  subst e3 e4
  have R1 := Lib.hid hr1.bs
  have HB1 := Lib.hid (HB0.out.trans (hb1.mono HB0.out.size))
  clear ho1 hb1 HB0 Hb0 hr1 hn1
  have hc1 : (13 : Nat) ≤ cg := hc1
  go_wp2_with fail
  refine (awake_any w1).mono ?_
  rintro e w2 ⟨rfl, hb2⟩
  have R2 := Lib.hid ((R1.out.below hb2).more hb2.size)
  have HB2 := Lib.hid (HB1.out.trans (hb2.mono HB1.out.size))
  clear hb2 R1 HB1
  go_wp2_with fail
  generalize hW : World.alloc _ _ = W3
  have H23 : Hid (Below w2.heap.size w2 W3) := Lib.hid (by subst hW; exact below_alloc _ _)
  have Hb3 : Hid (Bs W3 W3.heap.size (some ⟨w2.heap.size, 0, none⟩) [0, 0, 0, 1, 255, 255, 255, 254, 7]) := Lib.hid (by subst hW; exact Bs.new _ _ _ _ _ rfl)
  clear hW
  have R3 := Lib.hid ((R2.out.below H23.out).more H23.out.size)
  have HB3 := Lib.hid (HB2.out.trans (H23.out.mono HB2.out.size))
  refine (same_bytes ((frameL [7]).take 9) _ _ _ 9 9 cg 9 W3 W3.heap.size W3.heap.size (by rw [List.length_take, kn6]; rfl) rfl (R3.out.pref 9) (by intro h; cases h) Hb3.out (by intro h; cases h)).mono ?_
  rintro e w4 ⟨rfl, rfl⟩
  rw [decide_eq_true kn1]
  clear R2 HB2 H23 Hb3
  go_wp2_with fail
  refine (copy_at (frameL [7]) 13 kn6.symm (by decide) _ cg W3 R3.out (by intro h; cases h)).mono ?_
  rintro e w5 ⟨v5, rfl, ho5, hb5⟩
  have O5 := Lib.hid ho5; have H35 := Lib.hid hb5; have R5 := Lib.hid ((R3.out.below hb5).more hb5.size); have HB5 := Lib.hid (HB3.out.trans (hb5.mono HB3.out.size))
  clear ho5 hb5
  go_wp2_with (at_builtin; refine wpList_append_lit E5 (bcells [0, 0]) _ rfl rfl (.tmp 38) (.tmp 39) rfl W3.heap.size (bcells_one _) 2 rfl v5 13 (bcells (frameL [7])) rfl O5.out rfl (by omega) (by omega) W3 (Nat.le_refl _) H35.out ?_; intro v6 w6 h2 h3 h4 h5; clear h4 h5; have O6 := Lib.hid h2; have H36 := Lib.hid h3; clear h2 h3; rw [← bcells_app] at O6; obtain ⟨A6, c6, rfl, hr6, _, hc6⟩ := own_rd O6.out; have R6 := Lib.hid hr6.bs; clear hr6)
  refine (scan_at (frameL [7] ++ [0, 0]) 15 (by decide +kernel) (by decide) A6 c6 w6 R6.out hc6).mono ?_
  rintro e w7 ⟨v7, vs, rfl, ho7, hr7, hb7⟩
  rw [kn2] at ho7 hr7 ⊢
  have O7 := Lib.hid ho7; have Hr7 := Lib.hid hr7; have H37 := Lib.hid (H36.out.trans (hb7.mono H36.out.size)); 
  obtain ⟨A7, c7, rfl, hls7, _, _⟩ := Ls.rows ho7 hr7 rfl
  have L7 := Lib.hid hls7
  clear ho7 hr7 hb7 hls7 O6 O7 Hr7
  go_wp2_with fail
  generalize hW : World.alloc _ _ = W8
  have H78 : Hid (Below w7.heap.size w7 W8) := Lib.hid (by subst hW; exact below_alloc _ _)
  have Hb8 : Hid (Bs W8 W8.heap.size (some ⟨w7.heap.size, 0, none⟩) [0, 0, 0, 1, 255, 255, 255, 255]) := Lib.hid (by subst hW; exact Bs.new _ _ _ _ _ rfl)
  clear hW
  refine (scan_at [0, 0, 0, 1, 255, 255, 255, 255] 8 rfl (by decide) _ 8 W8 Hb8.out (by decide)).mono ?_
  rintro e w9 ⟨v9, vs9, rfl, ho9, hr9, hb9⟩
  rw [kn3] at ho9 hr9 ⊢
  obtain ⟨A9, c9, rfl, _, _, _⟩ := own_rd ho9
  have H79 := Lib.hid (H78.out.trans (hb9.mono H78.out.size))
  clear ho9 hr9 hb9 H78 Hb8
  go_wp2_with fail
  refine (scan_at [] 0 rfl (by decide) none 0 w9 Bs.empty (by decide)).mono ?_
  rintro e w10 ⟨v10, vs10, rfl, ho10, hr10, hb10⟩
  rw [scan_nil] at ho10 hr10 ⊢
  obtain ⟨A10, c10, rfl, _, _, _⟩ := own_rd ho10
  have H710 := Lib.hid (H79.out.trans (hb10.mono H79.out.size))
  have H310 := Lib.hid (H37.out.trans (H710.out.mono H37.out.size))
  have R10 := Lib.hid ((R3.out.below H310.out).more H310.out.size)
  clear ho10 hr10 hb10
  go_wp2_with fail
  refine (copy_at (frameL [7]) 13 kn6.symm (by decide) _ cg w10 R10.out (by intro h; cases h)).mono ?_
  rintro e w11 ⟨v11, rfl, ho11, hb11⟩
  have O11 := Lib.hid ho11; have H1011 := Lib.hid hb11
  clear ho11 hb11
  go_wp2_with (at_builtin; refine wpList_append_lit E5 (bcells [0]) _ rfl rfl (.tmp 58) (.tmp 59) rfl w10.heap.size (bcells_one _) 1 rfl v11 13 (bcells (frameL [7])) rfl O11.out rfl (by omega) (by omega) w10 (Nat.le_refl _) H1011.out ?_; intro v12 w12 h2 h3 h4 h5; clear h4 h5; have O12 := Lib.hid h2; have H1012 := Lib.hid h3; clear h2 h3; rw [← bcells_app] at O12; obtain ⟨A12, c12, rfl, hr12, _, hc12⟩ := own_rd O12.out; have R12 := Lib.hid hr12.bs; clear hr12)
  refine (one_at (frameL [7] ++ [0]) 14 (by decide +kernel) (by decide) A12 c12 w12 R12.out hc12).mono ?_
  rintro e w13 ⟨hb13, h13⟩
  rcases h13 with ⟨_, rfl⟩ | ⟨r, v13, h13, _⟩
  · have H1013 := Lib.hid (H1012.out.trans (hb13.mono H1012.out.size))
    clear hb13 O12 R12 O11
    obtain ⟨ob, hmk⟩ : ∃ ob : Obj, ∀ W, (Instr.makeSlice 24 (.int .i64 65537) (.int .i64 65537)).run Try.prog W = .ok (.slice (some ⟨W.heap.size, 0, none⟩) 65537 65537) (W.alloc ob) := ⟨_, fun W => run_make_el E5 65537 65537 (by simp) (by omega) (by omega) W⟩
    go_wp2_with fail
    generalize hW : World.alloc _ _ = W14
    have H14 : Hid (Below w13.heap.size w13 W14) := Lib.hid (by subst hW; exact below_alloc _ _)
    clear hW hmk
    refine (frame_long 65537 (by omega) _ _ W14).mono ?_
    rintro e w15 ⟨rfl, rfl⟩
    have H1014 := Lib.hid (H1013.out.trans (H14.out.mono H1013.out.size))
    have H714 := Lib.hid (H710.out.trans (H1014.out.mono H710.out.size))
    go_wp2_with fail
    refine (size_any _ W14).mono ?_
    rintro e w16 ⟨rfl, rfl⟩
    rw [show sizeZ 1 = 13 by decide]
    go_wp2_with fail
    refine (size_any _ W14).mono ?_
    rintro e w16 ⟨rfl, rfl⟩
    rw [show sizeZ 65536 = 65548 by decide]
    go_wp2_with fail
    refine (size_any _ W14).mono ?_
    rintro e w16 ⟨rfl, rfl⟩
    rw [show sizeZ 65537 = 0 by decide]
    go_wp2_with fail
    refine (size_any _ W14).mono ?_
    rintro e w16 ⟨rfl, rfl⟩
    rw [show sizeZ (-1) = 0 by decide]
    go_wp2_with fail
    refine (check_any [] (by decide) none 0 0 W14 Bs.empty).mono ?_
    rintro e w16 ⟨rfl, rfl⟩
    rw [kn5]
    obtain ⟨bl, ol, el, hbl, Ai, ci, hci, hbi, hzi⟩ := L7.out 0 (by decide)
    subst el
    have hcell := (H714.out.cell (p := ⟨bl, ol + 0, none⟩) hbl).trans hci
    have Hbi := Lib.hid ((hbi.below H714.out).more H714.out.size)
    clear hci hbi
    rw [Nat.add_zero] at hcell
    have Hzi := Lib.hid hzi
    clear hzi
    go_wp2_with fail
    generalize hW : World.alloc _ _ = W17
    have H17 : Hid (Below W14.heap.size W14 W17) := Lib.hid (by subst hW; exact below_alloc _ _)
    have Hb17 : Hid (Bs W17 W17.heap.size (some ⟨W14.heap.size, 0, none⟩) [7]) := Lib.hid (by subst hW; exact Bs.new _ _ _ _ _ rfl)
    clear hW
    refine (same_bytes [7] [7] Ai _ 1 1 ci 1 W17 W14.heap.size W17.heap.size rfl rfl (Hbi.out.below H17.out) Hzi.out Hb17.out (by intro h; cases h)).mono ?_
    rintro e w18 ⟨rfl, rfl⟩
    go_wp2_with fail
    go_ret
    exact ⟨rfl, HB3.out.trans ((H310.out.trans ((H1014.out.trans (H17.out.mono H1014.out.size)).mono H310.out.size)).mono HB3.out.size)⟩
  · rw [kn4] at h13; cases h13
end Go.Proofs.Ytblccebcmfpjeaa
