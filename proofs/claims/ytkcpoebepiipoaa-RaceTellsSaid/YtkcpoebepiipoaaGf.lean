/- race.Data. -/
import Derived.Test.YtkcpoebepiipoaaGl
import Derived.Test.YtkcpoebepiipoaaGd
set_option linter.unusedSimpArgs false
set_option linter.unusedVariables false
namespace Go.Proofs.Ytkcpoebepiipoaa
open Go.RowKit

set_option maxRecDepth 100000 in
set_option maxHeartbeats 4000000 in
theorem dataf_is (l : List Ev) (m : Nat) (hm : m = l.length) (hl : m ≤ 2000) (A Am : Option Addr) (cl cm B : Nat) (bs : List Nat) (w : World) (pm pl : Nat)
    (hA : Evs w w.heap.size A l) (hL : LockR w B l m (.slice Am m cm) bs) (hpm : w.cell? ⟨pm, 0, none⟩ = some (.slice Am m cm)) (hpl : w.cell? ⟨pl, 0, none⟩ = some (.slice A m cl)) :
    IsP 33 #[.pointer (some ⟨pl, 0, none⟩), .pointer (some ⟨pm, 0, none⟩)] (dataB l) m w := by
  intro U i j hW hi hj
  have h1 := (hW.cell (p := ⟨pm, 0, none⟩) (World.block_lt_of_cell? _ _ hpm)).trans hpm
  have h2 := (hW.cell (p := ⟨pl, 0, none⟩) (World.block_lt_of_cell? _ _ hpl)).trans hpl
  have hLW := hL.ext hW
  obtain ⟨Ar, cr, e5, hr5, _, _⟩ := own_rd hLW.1
  injection e5 with e5 _ e6; subst e5 e6
  obtain ⟨bj, hbj, _, hS⟩ := hLW.2.2 j hj
  obtain ⟨bo, oo, rfl, hbo, hcell⟩ := hr5 j (mapv bj) (by simp [hbj])
  simp only [mapv] at hcell
  obtain ⟨b, off, rfl, hb3, c1, c2, c3⟩ := hA i (by omega)
  obtain ⟨_, _, e3, _, d1, d2, d3⟩ := hA j (by omega)
  injection e3 with e3; injection e3 with e1 e2; subst e1 e2
  have hb0 := below_alloc U (.cells #[.int .i64 i, .int .i64 j] 45)
  have hp0 := heap_alloc_new U (.cells #[.int .i64 i, .int .i64 j] 45)
  have HC : Hid (∀ V, Below U.heap.size U V → V.cell? ⟨pm, 0, none⟩ = some (.slice (some ⟨bo, oo, none⟩) m cm) ∧ V.cell? ⟨pl, 0, none⟩ = some (.slice (some ⟨b, off, none⟩) m cl) ∧ V.cell? ⟨bo, oo + j, none⟩ = some (.map (some bj)) ∧ V.cell? ⟨b, off + i * 3, none⟩ = some (.int .i64 (ev l i).t) ∧ V.cell? ⟨b, off + i * 3 + 1, none⟩ = some (.int .i64 (ev l i).k) ∧ V.cell? ⟨b, off + i * 3 + 2, none⟩ = some (.int .i64 (ev l i).o) ∧ V.cell? ⟨b, off + j * 3, none⟩ = some (.int .i64 (ev l j).t) ∧ V.cell? ⟨b, off + j * 3 + 1, none⟩ = some (.int .i64 (ev l j).k) ∧ V.cell? ⟨b, off + j * 3 + 2, none⟩ = some (.int .i64 (ev l j).o)) :=
    Lib.hid fun V h => by
      have h' := hW.trans (h.mono hW.size)
      exact ⟨(h.cell (p := ⟨pm, 0, none⟩) (World.block_lt_of_cell? _ _ h1)).trans h1, (h.cell (p := ⟨pl, 0, none⟩) (World.block_lt_of_cell? _ _ h2)).trans h2, (h.cell (p := ⟨bo, _, none⟩) (World.block_lt_of_cell? _ _ hcell)).trans hcell, (h'.cell (p := ⟨b, _, none⟩) hb3).trans c1, (h'.cell (p := ⟨b, _, none⟩) hb3).trans c2, (h'.cell (p := ⟨b, _, none⟩) hb3).trans c3, (h'.cell (p := ⟨b, _, none⟩) hb3).trans d1, (h'.cell (p := ⟨b, _, none⟩) hb3).trans d2, (h'.cell (p := ⟨b, _, none⟩) hb3).trans d3⟩
  have HK : Hid (∀ V, Below U.heap.size U V → (Instr.lookup 66 (.map (some bj)) (.int .i64 (i : Int)) false).run Try.prog V = .ok (.bool (lk l i j)) V) := Lib.hid (fun V h => (hS.ext h).look i (by omega))
  have HD := Lib.hid (fun V => data_any (ev l i) (ev l j) V)
  have HF : Hid (dataB l i j = (dat (ev l i) (ev l j) && !lk l i j)) := Lib.hid rfl
  have him : i < m := by omega
  have HLM := Lib.hid hm
  clear hA hL hLW hpm hpl hr5 hbj hS hcell c1 c2 c3 d1 d2 d3 h1 h2 hW hm
  simp only [ev_eta] at HD
  generalize dataB l i j = rr at *
  generalize dat (ev l i) (ev l j) = dd at *
  generalize lk l i j = kk at *
  generalize ev l i = ei at *
  generalize ev l j = ej at *
  simp only [prv, List.append_toArray, List.cons_append, List.nil_append]
  go_enter Try.func33, Try.ntmps33
  cases dd
  · skip
    go_upto_region 1 with (fail)
    have hps : U.heap.size < (U.alloc (.cells #[.int .i64 i, .int .i64 j] 45)).heap.size := by simp
    generalize U.alloc (.cells #[.int .i64 i, .int .i64 j] 45) = w1 at *
    have HP : Hid (∀ V, Below w1.heap.size w1 V → V.cell? ⟨U.heap.size, 0, none⟩ = some (.int .i64 i) ∧ V.cell? ⟨U.heap.size, 1, none⟩ = some (.int .i64 j)) :=
      Lib.hid fun V h => ⟨(h.cell (p := ⟨U.heap.size, 0, none⟩) hps).trans (by rw [cell_blk (T := 45) hp0]; rfl), (h.cell (p := ⟨U.heap.size, 1, none⟩) hps).trans (by rw [cell_blk (T := 45) hp0]; rfl)⟩
    have H0 : Hid (Below U.heap.size U w1) := Lib.hid hb0
    clear hb0 hp0
    apply wp_region_relH (H := []) 23 [(Sum.inl _ : TT), (Sum.inl _ : TT), (Sum.inl _ : TT), (Sum.inl _ : TT), (Sum.inl _ : TT), (Sum.inl _ : TT), (Sum.inl _ : TT), (Sum.inl _ : TT), (Sum.inl _ : TT), (Sum.inl _ : TT), (Sum.inl _ : TT), (Sum.inl _ : TT), (Sum.inl _ : TT), (Sum.inl _ : TT), (Sum.inl _ : TT), (Sum.inl _ : TT), (Sum.inl _ : TT), (Sum.inl _ : TT), (Sum.inl _ : TT), (Sum.inl _ : TT), (Sum.inl _ : TT), (Sum.inl _ : TT), (Sum.inl _ : TT)] (by kernel_rfl) (by kernel_rfl) (fun _ _ _ _ _ h => h) rfl
    simp only [List.take_succ_cons, List.take_zero, List.drop_succ_cons, List.drop_zero]
    iterate 10 (apply rel_isS; (intro W hW hf; obtain ⟨x1, x2, x3, y1, y2, y3, u1, u2, u3⟩ := HC.out W (H0.out.trans (hW.mono H0.out.size)); obtain ⟨z1, z2⟩ := HP.out W hW; go_simp; first | exact ⟨StayS.refl _ _, rfl⟩ | rfl); simp only [Act.put, List.setIfInBounds_toArray, List.set_cons_succ, List.set_cons_zero])
    apply rel_isS
    · intro W hW hf
      exact rel_callS hW rfl (by go_simp <;> first | rfl | exact ⟨rfl, rfl⟩ | exact ⟨rfl, rfl, rfl⟩) ((HD.out W).mono fun e w'' h => ⟨_, h.1, h.2, rfl⟩)
    simp only [Act.put, List.setIfInBounds_toArray, List.set_cons_succ, List.set_cons_zero]
    iterate 12 (apply rel_isS; (intro W hW hf; go_simp; first | exact ⟨StayS.refl _ _, rfl⟩ | rfl); simp only [Act.put, List.setIfInBounds_toArray, List.set_cons_succ, List.set_cons_zero])
    refine rel_endS ?_
    intro W hW hf
    try simp only [Act.put, List.setIfInBounds_toArray, List.set_cons_succ, List.set_cons_zero]
    go_wp2_with fail
    go_ret
    exact ⟨ret_bool (by rw [HF.out]; rfl), H0.out.trans (hW.mono H0.out.size)⟩
  · skip
    go_upto_region 1 with (fail)
    have hps : U.heap.size < (U.alloc (.cells #[.int .i64 i, .int .i64 j] 45)).heap.size := by simp
    generalize U.alloc (.cells #[.int .i64 i, .int .i64 j] 45) = w1 at *
    have HP : Hid (∀ V, Below w1.heap.size w1 V → V.cell? ⟨U.heap.size, 0, none⟩ = some (.int .i64 i) ∧ V.cell? ⟨U.heap.size, 1, none⟩ = some (.int .i64 j)) :=
      Lib.hid fun V h => ⟨(h.cell (p := ⟨U.heap.size, 0, none⟩) hps).trans (by rw [cell_blk (T := 45) hp0]; rfl), (h.cell (p := ⟨U.heap.size, 1, none⟩) hps).trans (by rw [cell_blk (T := 45) hp0]; rfl)⟩
    have H0 : Hid (Below U.heap.size U w1) := Lib.hid hb0
    clear hb0 hp0
    apply wp_region_relH (H := []) 23 [(Sum.inl _ : TT), (Sum.inl _ : TT), (Sum.inl _ : TT), (Sum.inl _ : TT), (Sum.inl _ : TT), (Sum.inl _ : TT), (Sum.inl _ : TT), (Sum.inl _ : TT), (Sum.inl _ : TT), (Sum.inl _ : TT), (Sum.inl _ : TT), (Sum.inl _ : TT), (Sum.inl _ : TT), (Sum.inl _ : TT), (Sum.inl _ : TT), (Sum.inl _ : TT), (Sum.inl _ : TT), (Sum.inl _ : TT), (Sum.inl _ : TT), (Sum.inl _ : TT), (Sum.inl _ : TT), (Sum.inl _ : TT), (Sum.inl _ : TT)] (by kernel_rfl) (by kernel_rfl) (fun _ _ _ _ _ h => h) rfl
    simp only [List.take_succ_cons, List.take_zero, List.drop_succ_cons, List.drop_zero]
    iterate 10 (apply rel_isS; (intro W hW hf; obtain ⟨x1, x2, x3, y1, y2, y3, u1, u2, u3⟩ := HC.out W (H0.out.trans (hW.mono H0.out.size)); obtain ⟨z1, z2⟩ := HP.out W hW; go_simp; first | exact ⟨StayS.refl _ _, rfl⟩ | rfl); simp only [Act.put, List.setIfInBounds_toArray, List.set_cons_succ, List.set_cons_zero])
    apply rel_isS
    · intro W hW hf
      exact rel_callS hW rfl (by go_simp <;> first | rfl | exact ⟨rfl, rfl⟩ | exact ⟨rfl, rfl, rfl⟩) ((HD.out W).mono fun e w'' h => ⟨_, h.1, h.2, rfl⟩)
    simp only [Act.put, List.setIfInBounds_toArray, List.set_cons_succ, List.set_cons_zero]
    iterate 12 (apply rel_isS; (intro W hW hf; obtain ⟨x1, x2, x3, y1, y2, y3, u1, u2, u3⟩ := HC.out W (H0.out.trans (hW.mono H0.out.size)); obtain ⟨z1, z2⟩ := HP.out W hW; have hlk := HK.out W (H0.out.trans (hW.mono H0.out.size)); go_simp; first | exact ⟨StayS.refl _ _, rfl⟩ | rfl); simp only [Act.put, List.setIfInBounds_toArray, List.set_cons_succ, List.set_cons_zero])
    refine rel_endS ?_
    intro W hW hf
    try simp only [Act.put, List.setIfInBounds_toArray, List.set_cons_succ, List.set_cons_zero]
    go_wp2_with fail
    go_ret
    exact ⟨ret_bool (by rw [HF.out]; rfl), H0.out.trans (hW.mono H0.out.size)⟩
def dataL (l : List Ev) (n : Int) : List (Nat × Nat) := if wrongE l n = 0 then sifted (dataB l) (upTo l l.length) else []
set_option maxRecDepth 100000 in
set_option maxHeartbeats 4000000 in
theorem datas_any (l : List Ev) (m : Nat) (hm : m = l.length) (hl : m ≤ 2000) (n : Int) (A : Option Addr) (cap : Nat) (hcap : m ≤ cap) (B : Nat) (w : World) (hA : Evs w B A l) (hB : B ≤ w.heap.size) :
    Calls Try.prog 10 #[.slice A m cap, .int .i64 n] w (PairsP w (wrongE l n) (dataL l n)) := by
  have HA := Lib.hid (hA.more hB)
  have HM := Lib.hid hm
  clear hA
  by_cases hw : wrongE l n = 0
  · obtain ⟨x1, x2, x3, x4⟩ := wrong_ok hw
    obtain ⟨nn, rfl⟩ := Int.eq_ofNat_of_zero_le (show 0 ≤ n by omega)
    have HC := Lib.hid (fun W (h : Below w.heap.size w W) => clocks_at l m hm (by omega) nn hw A cap hcap w.heap.size W (HA.out.below h) h.size)
    have HE : Hid (dataL l nn = sifted (dataB l) (upTo l l.length)) := Lib.hid (by unfold dataL; rw [if_pos hw])
    rw [hw]
    clear hw x4 hm
    go_enter Try.func10, Try.ntmps10
    go_wp2_with fail
    refine (HC.out _ (below_alloc _ _)).mono ?_
    rintro r w1 ⟨Ac, cc, rfl, hc, hb⟩
    have hpl := (hb.block w.heap.size (by simp)).trans (heap_alloc_new w (.cells #[.slice A m cap] 22))
    have hb0 : Below w.heap.size w w1 := (below_alloc _ _).trans (hb.mono (below_alloc _ _).size)
    have hlt : w.heap.size < w1.heap.size := lt_blk hpl
    have hp1 : w1.cell? ⟨w.heap.size, 0, none⟩ = some (.slice A m cap) := by rw [cell_blk (T := 22) hpl]; rfl
    have HLo := Lib.hid (locked_any l m HM.out hl A cap w1 ((HA.out.below hb0).more hb0.size))
    have HB0 := Lib.hid hb0
    have HPL := Lib.hid hpl
    clear hpl hb0 hc hb
    go_wp2_with fail
    refine HLo.out.mono ?_
    rintro e w2 ⟨v, bs, rfl, hL, hb2⟩
    obtain ⟨Am, cm, rfl, _, _, _⟩ := own_rd hL.1
    have hpl2 := (hb2.block w.heap.size hlt).trans HPL.out
    have hlt2 : w.heap.size < w2.heap.size := lt_blk hpl2
    have hb02 : Below w.heap.size w w2 := HB0.out.trans (hb2.mono HB0.out.size)
    have hq1 : (w2.alloc (.cells #[.slice Am m cm] 64)).cell? ⟨w.heap.size, 0, none⟩ = some (.slice A m cap) := by rw [World.cell?_alloc_lt _ _ _ hlt2, cell_blk (T := 22) hpl2]; rfl
    have hq2 : (w2.alloc (.cells #[.slice Am m cm] 64)).cell? ⟨w2.heap.size, 0, none⟩ = some (.slice Am m cm) := by rw [cell_blk (T := 64) (heap_alloc_new _ _)]; rfl
    have hbx : Below w.heap.size w (w2.alloc (.cells #[.slice Am m cm] 64)) := hb02.trans ((below_alloc _ _).mono hb02.size)
    have HI := Lib.hid (dataf_is l m HM.out hl A Am cap cm w1.heap.size bs _ w2.heap.size w.heap.size ((HA.out.below hbx).more hbx.size) (hL.ext (below_alloc _ _)) hq2 hq1)
    have HB := Lib.hid hbx
    have HQ2 := Lib.hid hq2
    clear hpl2 hb02 hL hb2 hq2 hbx hp1
    go_wp2_with fail
    refine (gathered_at_33 l m HM.out hl A cap _ (dataB l) _ ((HA.out.below HB.out).more HB.out.size) HI.out).mono ?_
    rintro e w3 ⟨v, rfl, hv, hb3⟩
    have HV := Lib.hid hv
    have HB2 := Lib.hid (HB.out.trans (hb3.mono HB.out.size))
    clear hb3 hv
    go_wp2_with fail
    go_ret2
    refine ⟨HB2.out, v, rfl, ?_⟩
    rw [HE.out, ← HM.out]
    exact owns_less HV.out HB.out.size
  · have HC := Lib.hid (fun W (h : Below w.heap.size w W) => clocks_bad l m hm (by omega) n hw A cap hcap w.heap.size W (HA.out.below h) h.size)
    have HE : Hid (dataL l n = []) := Lib.hid (by unfold dataL; rw [if_neg hw])
    have hb0 : Below w.heap.size w (w.alloc (.cells #[.slice A m cap] 22)) := below_alloc _ _
    have hx : ((wrongE l n : Nat) : Int) = 0 → False := by omega
    have hx2 : decide (((wrongE l n : Nat) : Int) = 0) = false := by rw [decide_eq_false_iff_not]; exact hx
    have hx3 : (((wrongE l n : Nat) : Int) == 0) = false := by rw [beq_eq_false_iff_ne]; exact hx
    clear hw hm
    generalize wrongE l n = er at *
    go_enter Try.func10, Try.ntmps10
    go_wp2_with fail
    refine (HC.out _ (below_alloc _ _)).mono ?_
    rintro r w1 ⟨rfl, hb⟩
    have HB := Lib.hid (hb0.trans (hb.mono hb0.size))
    clear hb hb0 HC
    go_wp2_with fail
    go_ret2
    exact ⟨HB.out, _, rfl, by rw [HE.out]; exact World.ownsRow_nil _ _ _ _⟩
end Go.Proofs.Ytkcpoebepiipoaa
