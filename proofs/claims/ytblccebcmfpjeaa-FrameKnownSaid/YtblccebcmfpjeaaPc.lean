/- frames one behind the other, and the beginning of one more. -/
import Derived.Test.YtblccebcmfpjeaaPb
import Derived.Test.YtblccebcmfpjeaaSm
import Derived.Test.YtblccebcmfpjeaaKo
set_option linter.unusedSimpArgs false
set_option linter.unusedVariables false
namespace Go.Proofs.Ytblccebcmfpjeaa
open Go.RowKit

def sizeZ (n : Int) : Int := if n < 0 ∨ 65536 < n then 0 else n + 12
theorem size_any (n : Int) (w : World) : Calls Try.prog 20 #[.int .i64 n] w fun e w' => e = .returned (.int .i64 (sizeZ n)) ∧ w = w' := by
  by_cases h1 : n < 0
  · have Hs : Hid (sizeZ n = 0) := Lib.hid (if_pos (.inl h1))
    go_enter Try.func20, Try.ntmps20
    go_wp2_with fail
    go_ret
    exact ⟨by rw [Hs.out]; rfl, rfl⟩
  by_cases h2 : 65536 < n
  · have Hs : Hid (sizeZ n = 0) := Lib.hid (if_pos (.inr h2))
    go_enter Try.func20, Try.ntmps20
    go_wp2_with fail
    go_ret
    exact ⟨by rw [Hs.out]; rfl, rfl⟩
  · have Hs : Hid (sizeZ n = n + 12) := Lib.hid (if_neg (by omega))
    go_enter Try.func20, Try.ntmps20
    go_wp2_with fail
    go_ret
    exact ⟨by rw [Hs.out]; rfl, rfl⟩
theorem size_ref (n : Int) (w : World) : Calls Try.prog 21 #[.int .i64 n] w fun e w' => e = .returned (.int .i64 (sizeZ n)) ∧ w = w' := by
  by_cases h1 : n < 0
  · have Hs : Hid (sizeZ n = 0) := Lib.hid (if_pos (.inl h1))
    go_enter Try.func21, Try.ntmps21
    go_wp2_with fail
    go_ret
    exact ⟨by rw [Hs.out]; rfl, rfl⟩
  by_cases h2 : 65536 < n
  · have Hs : Hid (sizeZ n = 0) := Lib.hid (if_pos (.inr h2))
    go_enter Try.func21, Try.ntmps21
    go_wp2_with fail
    go_ret
    exact ⟨by rw [Hs.out]; rfl, rfl⟩
  · have Hs : Hid (sizeZ n = n + 12) := Lib.hid (if_neg (by omega))
    go_enter Try.func21, Try.ntmps21
    go_wp2_with fail
    go_ret
    exact ⟨by rw [Hs.out]; rfl, rfl⟩
theorem pick_nat (x : Int) (n : Nat) (h : 0 < n) : ∃ p : Nat, pick x n = p ∧ p < n := by
  have h1 : pick x n = x % n := if_neg (by omega)
  have h2 := Int.emod_nonneg x (show (n : Int) ≠ 0 by omega)
  have h3 := Int.emod_lt_of_pos x (show 0 < (n : Int) by omega)
  exact ⟨(x % n).toNat, by rw [h1]; omega, by omega⟩
theorem scan_back (ls : List (List UInt8)) (r : List UInt8) (h : ∀ x ∈ ls, x.length ≤ 65536) (hr : r.length ≤ 65536) (c : Nat) (hc : c < r.length + 12) : scanL (framesL ls ++ (frameL r).take c) = (ls, (framesL ls).length, if c = 0 then 0 else 1) := by
  rw [scan_frames _ _ h, scan_torn r hr c hc]; simp
theorem copy_at (l : List UInt8) (n : Nat) (hn : n = l.length) (hl : n ≤ 1000000) (A : Option Addr) (cap : Nat) (w : World) (hA : Bs w w.heap.size A l) (hA0 : A = none → l = []) :
    Calls Try.prog 26 #[.slice A n cap] w fun e w' => ∃ v, e = .returned v ∧ w'.ownsRow w.heap.size 5 1 v n (bcells l) ∧ Below w.heap.size w w' := by
  subst hn; exact copy_any l hl A cap w hA hA0
set_option maxRecDepth 100000 in
set_option maxHeartbeats 4000000 in
theorem back_walk (ls : List (List UInt8)) (A : Option Addr) (cap : Nat) (l1 : List UInt8) (A1 : Option Addr) (cap1 : Nat) (cut : Int) (w : World) (hA : Ls w w.heap.size A ls) (hl : ls.length ≤ 140737488351232 ∧ ∀ l ∈ ls, l.length ≤ 140737488351232)
    (hA1 : Bs w w.heap.size A1 l1) (hz1 : A1 = none → l1 = []) (hcut : (-9223372036854775808 : Int) ≤ cut ∧ cut ≤ 9223372036854775807) :
    Calls Try.prog 6 #[.slice A ls.length cap, .slice A1 l1.length cap1, .int .i64 cut] w fun e w' => e = .returned (.bool true) ∧ Below w.heap.size w w' := by
  have HA := Lib.hid hA; have HL := Lib.hid hl; have HA1 := Lib.hid hA1; have Hz1 := Lib.hid hz1
  clear hA hl hA1 hz1
  go_enter Try.func6, Try.ntmps6
  go_wp2_with fail
  refine (awake_any w).mono ?_
  rintro e w1 ⟨rfl, hb1⟩
  have HB1 := Lib.hid hb1
  have HAw1 := Lib.hid ((HA.out.below hb1).more hb1.size)
  clear hb1
  go_wp2_with fail
  refine (run_any ls A cap w1 HAw1.out HL.out.1 HL.out.2).mono ?_
  rintro e w2 ⟨hb2, h2⟩
  have HB2 := Lib.hid (HB1.out.trans (hb2.mono HB1.out.size))
  have HA2 := Lib.hid ((HA1.out.below HB2.out).more HB2.out.size)
  clear hb2
  by_cases h6 : l1.length ≤ 65536
  · rcases h2 with rfl | ⟨h20, hall, v, u, rfl, hv, hu⟩
    · go_wp2_with fail
      refine (frame_any l1 h6 A1 cap1 w2 HA2.out Hz1.out).mono ?_
      rintro e w3 ⟨v3, rfl, h1, hb3⟩
      have HB3 := Lib.hid (HB2.out.trans (hb3.mono HB2.out.size))
      clear h1 hb3
      go_wp2_with fail
      go_ret
      exact ⟨rfl, HB3.out⟩
    · have Hall := Lib.hid hall
      have hfl := frames_len ls hall
      have hm : (framesL ls).length ≤ 6240 := by omega
      obtain ⟨Av, cv, rfl, _, _, _⟩ := own_rd hv
      obtain ⟨Au, cu, rfl, _, _, _⟩ := own_rd hu
      have Hv := Lib.hid hv; have Hu := Lib.hid hu
      clear hall hfl hv hu
      go_wp2_with fail
      refine (frame_any l1 h6 A1 cap1 w2 HA2.out Hz1.out).mono ?_
      rintro e w3 ⟨v3, rfl, h1, hb3⟩
      have HB3 := Lib.hid (HB2.out.trans (hb3.mono HB2.out.size))
      obtain ⟨A3, c3, rfl, hr3, hn3, hc3⟩ := own_rd h1
      obtain ⟨g3, cg, cur, e3, _⟩ := own_blk h1 (by omega)
      injection e3 with e3 _ e4
      subst e3 e4
      have Hv3 := Lib.hid (own_below Hv.out hb3); have Hu3 := Lib.hid (own_below Hu.out hb3); have R3 := Lib.hid hr3.bs
      clear h1 hb3 hr3 hn3
      by_cases h300 : l1.length ≤ 300
      · go_wp2_with fail
        refine (pick_any cut _ hcut (by omega) (by omega) w3).mono ?_
        rintro e w4 ⟨rfl, rfl⟩
        obtain ⟨c, hp, hc⟩ := pick_nat cut (l1.length + 12) (by omega)
        rw [show ((l1.length : Int) + 12) = ((l1.length + 12 : Nat) : Int) by simp, hp]
        clear hp
        have Hbs := Lib.hid (scan_back ls l1 (fun x hx => Nat.le_trans (Hall.out x hx) (by omega)) h6 c hc)
        have Rv := Lib.hid (own_rds Hv3.out).bs
        have Rf := Lib.hid (R3.out.pref c)
        have Hcl : Hid (((frameL l1).take c).length = c) := Lib.hid (by rw [List.length_take, frame_length]; omega)
        obtain ⟨_, _, e5, _, hn5, _⟩ := own_rd Hv3.out
        injection e5 with e5
        subst e5
        have N5 := Lib.hid (nil_ne hn5)
        have Hm1 : Hid ((framesL ls).length ≤ 1000000) := Lib.hid (by omega)
        have q1 : (0 : Int) ≤ c := by omega
        have q2 : (c : Int) ≤ c3 := by omega
        have Hc10 : Hid (c ≤ 100000) := Lib.hid (by omega)
        go_upto_region 7 with (fail)
        apply wp_region_relH (H := []) 5 [.inl _, .inr (OwnR w3.heap.size 5 (framesL ls).length (bcells (framesL ls))), .inl _, .inl _, .inl _] (by kernel_rfl) (by kernel_rfl) (fun _ _ _ _ _ h => h) rfl
        simp only [List.take_succ_cons, List.take_zero, List.drop_succ_cons, List.drop_zero]
        iterate 1 (apply rel_isS; (intro W hW hf; go_simp; exact ⟨StayS.refl _ _, rfl⟩); simp only [Act.put, List.setIfInBounds_toArray, List.set_cons_succ, List.set_cons_zero])
        refine rel_fitsS (fun W hW hf => rel_callS hW rfl (by go_simp <;> first | rfl | exact ⟨rfl, rfl⟩ | exact ⟨rfl, rfl, rfl⟩) ((copy_at (framesL ls) _ rfl Hm1.out Av cv W ((Rv.out.below hW).more hW.size) N5.out).mono fun e W' ⟨v, h1, h2, h3⟩ => ⟨v, h1, h3, own_base h2 hW.size⟩)) (OwnR.keepsS _ _ _ _) fun v47 => ?_
        simp only [Act.put, List.setIfInBounds_toArray, List.set_cons_succ, List.set_cons_zero]
        iterate 3 (apply rel_isS; (intro W hW hf; go_simp; exact ⟨StayS.refl _ _, rfl⟩); simp only [Act.put, List.setIfInBounds_toArray, List.set_cons_succ, List.set_cons_zero])
        refine rel_endS ?_
        intro W hW hf
        try simp only [Act.put, List.setIfInBounds_toArray, List.set_cons_succ, List.set_cons_zero]
        have h47 := hf (47, OwnR w3.heap.size 5 (framesL ls).length (bcells (framesL ls)) v47) (by simp)
        have H47 := Lib.hid h47
        have HW := Lib.hid hW
        clear h47 hf hW
        refine wpList_append_src E5 rfl (.tmp 47) (.tmp 50) rfl w3.heap.size v47 (framesL ls).length (bcells (framesL ls)) rfl H47.out w3.heap.size (some ⟨g3, 0, none⟩) (bcells ((frameL l1).take c)) c c3 rfl (by rw [bcells_length]; exact Hcl.out) (Rf.out.below HW.out).rd (fun h => by cases h) (bcells_one _) (by have := Hm1.out; have := Hc10.out; omega) (by omega) w3 (Nat.le_refl _) HW.out ?_
        intro v9 w9 h2 h3 h4 h5
        clear h4 h5
        obtain ⟨A9, c9, rfl, hr9, hn9, hc9⟩ := own_rd h2
        have R9 : Hid (Bs w9 w9.heap.size A9 (framesL ls ++ (frameL l1).take c)) := Lib.hid (by rw [← bcells_app] at hr9; exact hr9.bs)
        have HB9 := Lib.hid (HB3.out.trans (h3.mono HB3.out.size))
        have Hbl : Hid ((framesL ls ++ (frameL l1).take c).length = (framesL ls).length + c) := Lib.hid (by rw [List.length_append, Hcl.out])
        obtain ⟨bu, ou, eu, hbu, hcu⟩ := own_rds Hu3.out ls.length _ (icells_get _ _ (by rw [offs_length]; omega))
        rw [offs_get _ _ _ (by omega), List.take_length] at hcu
        subst eu
        have hcu9 := (h3.cell (p := ⟨bu, ou + ls.length, none⟩) hbu).trans hcu
        have Hlt : Hid (Ls w9 w9.heap.size A ls) := Lib.hid ((HA.out.below HB9.out).more HB9.out.size)
        have Hbu9 : Hid (bu < w9.heap.size) := Lib.hid (Nat.lt_of_lt_of_le hbu h3.size)
        have Hn9 : Hid ((framesL ls).length + c ≤ 1000000) := Lib.hid (by have := Hc10.out; omega)
        clear h2 h3 hr9 hn9 hcu
        generalize framesL ls ++ (frameL l1).take c = bs at *
        go_wp2_with fail
        refine (scan_at bs _ Hbl.out.symm Hn9.out A9 c9 w9 R9.out hc9).mono ?_
        rintro e w10 ⟨v10, vs, rfl, ho, hr, hb10⟩
        have hs := Hbs.out
        clear Hbs R9
        generalize scanL bs = sc at *
        subst hs
        dsimp only at ho hr ⊢
        obtain ⟨A10, c10, rfl, hls, _, _⟩ := Ls.rows ho hr rfl
        have Hls := Lib.hid hls
        have Hb10 := Lib.hid hb10
        have hcu10 := (hb10.cell (p := ⟨bu, ou + ls.length, none⟩) Hbu9.out).trans hcu9
        have Hl2 : Hid (ls.length ≤ 1000000) := Lib.hid (by omega)
        have Hsz : Hid (sizeZ (l1.length : Int) = (l1.length : Int) + 12) := Lib.hid (if_neg (by omega))
        clear ho hr hls hb10 hcu9
        by_cases hc0 : c = 0
        all_goals
          first
            | rw [if_pos hc0]
            | rw [if_neg hc0]
          try have dc : ((c : Int) == 0) = false := by rw [beq_eq_false_iff_ne]; omega
          go_wp2_with fail
          refine (lists_at ls ls ls.length ls.length rfl rfl Hl2.out Hl2.out A10 A c10 cap w10.heap.size w9.heap.size w10 Hls.out (Nat.le_refl _) (Hlt.out.below Hb10.out) Hb10.out.size).mono ?_
          rintro e w11 ⟨rfl, hb11⟩
          have Hb11 := Lib.hid hb11
          have hcu11 := (hb11.cell (p := ⟨bu, ou + ls.length, none⟩) (Nat.lt_of_lt_of_le Hbu9.out Hb10.out.size)).trans hcu10
          clear hb11 hcu10
          rw [decide_eq_true rfl]
          go_wp2_with fail
          refine (size_any _ w11).mono ?_
          rintro e w12 ⟨rfl, rfl⟩
          rw [Hsz.out]
          go_wp2_with fail
          go_ret
          exact ⟨rfl, HB9.out.trans ((Hb10.out.trans (Hb11.out.mono Hb10.out.size)).mono HB9.out.size)⟩
      · go_wp2_with fail
        go_ret
        exact ⟨rfl, HB3.out⟩
  · rcases h2 with rfl | ⟨h20, hall, v, u, rfl, hv, hu⟩
    · go_wp2_with fail
      refine (frame_long l1.length (by omega) A1 cap1 w2).mono ?_
      rintro e w3 ⟨rfl, rfl⟩
      go_wp2_with fail
      go_ret
      exact ⟨rfl, HB2.out⟩
    · obtain ⟨Av, cv, rfl, _, _, _⟩ := own_rd hv
      obtain ⟨Au, cu, rfl, _, _, _⟩ := own_rd hu
      clear hv hu hall
      go_wp2_with fail
      refine (frame_long l1.length (by omega) A1 cap1 w2).mono ?_
      rintro e w3 ⟨rfl, rfl⟩
      go_wp2_with fail
      go_ret
      exact ⟨rfl, HB2.out⟩
end Go.Proofs.Ytblccebcmfpjeaa
