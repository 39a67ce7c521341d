/- assizekit.SameCode. -/
import Derived.Test.YtbmpjphemjponaaVe
import Derived.BigRegion
set_option linter.unusedSimpArgs false
set_option linter.unusedVariables false
namespace Go.Proofs.Ytbmpjphemjponaa
open Go.RowKit

theorem lt_cell {w : World} {p : Addr} {v : Value} (h : w.cell? p = some v) : p.block < w.heap.size := by
  apply Nat.lt_of_not_le
  intro h2
  have h3 : w.heap[p.block]? = none := by simp; omega
  unfold World.cell? at h
  rw [h3] at h
  cases h
/-- two new blocks. -/
theorem two_new (w : World) (X Y : Array Value) (T : TypeId) : ((w.alloc (.cells X T)).alloc (.cells Y T)).drew.heap[w.heap.size]? = some (.cells X T (0, 0)) ∧ ((w.alloc (.cells X T)).alloc (.cells Y T)).drew.heap[w.heap.size + 1]? = some (.cells Y T (0, 0)) ∧ Below w.heap.size w ((w.alloc (.cells X T)).alloc (.cells Y T)).drew := by
  refine ⟨(Below.heap_alloc (w.alloc (.cells X T)) _ w.heap.size (by simp)).trans (heap_alloc_new w (.cells X T)), ?_, (((Below.refl _ _).alloc (Nat.le_refl _) _).alloc (by simp) _).drew⟩
  have := heap_alloc_new (w.alloc (.cells X T)) (.cells Y T)
  rwa [World.size_alloc] at this
set_option maxRecDepth 100000 in
set_option maxHeartbeats 8000000 in
theorem kit_code (n m : Cd) (s1 : CdSmall n) (s2 : CdSmall m) (p p2 q q2 : Slc) (B : Nat) (w : World) (h1 : VlsAt w B p n.shared) (h2 : BdsAt w B p2 n.bodies) (h3 : VlsAt w B q m.shared) (h4 : BdsAt w B q2 m.bodies) (hB : B ≤ w.heap.size) :
    Calls Try.prog 11 #[cdv n p p2, cdv m q q2] w fun e w' => e = .returned (.bool (Cd.eq n m)) ∧ Below w.heap.size w w' := by
  have HS := Lib.hid (fun W (h : Below w.heap.size w W) => same_values n.shared m.shared n.shared.length m.shared.length rfl rfl s1.1 s2.1 p q B W (h1.below (h.mono hB)) (h3.below (h.mono hB)) (Nat.le_trans hB h.size))
  have HE := Lib.hid (eqL_iff (f := Bd.eq) (l := n.bodies) (m := m.bodies))
  have HN0 : Hid (Cd.eq n m = (eqL Vl.eq n.shared m.shared && (decide (n.mutexes = m.mutexes) && eqL Bd.eq n.bodies m.bodies))) := Lib.hid rfl
  have H1 := Lib.hid h2; have H2 := Lib.hid h4
  have W1 := Lib.hid s1.2.2; have W2 := Lib.hid s2.2.2
  have L1 := s1.2.1; have L2 := s2.2.1
  clear h1 h2 h3 h4 s1 s2
  unfold cdv
  generalize Cd.eq n m = res at *
  obtain ⟨c1, k1, l⟩ := n
  obtain ⟨c2, k2, m⟩ := m
  obtain ⟨A, c⟩ := p2
  obtain ⟨A', c'⟩ := q2
  dsimp only at *
  generalize hr : eqL Bd.eq l m = r at *
  clear hr
  generalize hr : eqL Vl.eq c1 c2 = rs at *
  clear hr
  generalize c1.length = z1 at *
  generalize c2.length = z2 at *
  generalize hn1 : l.length = n1 at *
  generalize hn2 : m.length = n2 at *
  have N1 := Lib.hid hn1.symm; have N2 := Lib.hid hn2.symm
  clear hn1 hn2
  go_enter Try.func11, Try.ntmps11
  go_wp2_with fail
  refine (HS.out _ (((Below.refl _ _).alloc (Nat.le_refl _) _).alloc (by simp) _)).mono ?_
  rintro e w1 ⟨rfl, hb1⟩
  obtain ⟨hc, hb⟩ := two_boxes w1 hb1
  have HB := Lib.hid hb
  have HC := Lib.hid hc
  have z := fun j => (hc w1 (Below.refl _ _) j)
  have u0 := (z 0).1; have u1 := (z 1).1; have u2 := (z 2).1
  have v0 := (z 0).2; have v1 := (z 1).2; have v2 := (z 2).2
  simp only [List.getElem?_toArray, List.getElem?_cons_succ, List.getElem?_cons_zero] at u0 u1 u2 v0 v1 v2
  clear z hc hb hb1 HS
  cases rs
  · go_wp2_with fail
    go_ret
    exact ⟨ret_bool (by rw [HN0.out]; simp), HB.out⟩
  by_cases g0 : k1 = k2
  rotate_left
  · have d1 : (k1 == k2) = false := by rw [beq_eq_false_iff_ne]; exact g0
    have d2 : decide (k1 = k2) = false := decide_eq_false g0
    go_wp2_with fail
    go_ret
    exact ⟨ret_bool (by rw [HN0.out, d2]; simp), HB.out⟩
  subst g0
  have HR : Hid (res = r) := Lib.hid (by rw [HN0.out]; simp)
  clear HN0
  by_cases hne : n1 = n2
  rotate_left
  · have Hf : Hid (r = false) := Lib.hid (by
      cases r with
      | false => rfl
      | true => exact absurd ((HE.out.1 rfl).1) hne)
    have d1 : ((n1 : Int) == n2) = false := by rw [beq_eq_false_iff_ne]; omega
    have d2 : decide ((n1 : Int) = n2) = false := decide_eq_false (by omega)
    go_wp2_with fail
    go_ret
    exact ⟨ret_bool (by rw [HR.out, Hf.out]), HB.out⟩
  have HT : Hid ((∀ i, i < n1 → Bd.eq (l.getD i default) (m.getD i default) = true) → r = true) := Lib.hid (fun h => HE.out.2 ⟨hne, h⟩)
  have HF : Hid (∀ i, i < n1 → Bd.eq (l.getD i default) (m.getD i default) = false → r = false) := Lib.hid (fun i hi h => by
    cases r with
    | false => rfl
    | true => have := (HE.out.1 rfl).2 i hi; rw [h] at this; cases this)
  have N2 := Lib.hid (hne.trans N2.out)
  subst hne
  clear HE
  go_wp2_with fail
  clear u0 u1 u2 v0 v1 v2
  go_loopw [5] (fun iv wr => ∃ k : Nat, k ≤ n1 ∧ iv = .int .i64 k ∧ (∀ i, i < k → Bd.eq (l.getD i default) (m.getD i default) = true) ∧ Below w1.heap.size w1 wr) (fun iv _ => n1 - (intOf iv).toNat)
  case atStart => exact ⟨0, by omega, rfl, fun i hi => by omega, Below.refl _ _⟩
  case round =>
    obtain ⟨k, hk, rfl, hall, hb⟩ := hrel
    have Hall := Lib.hid hall
    have Hb := Lib.hid (HB.out.trans (hb.mono HB.out.size))
    have Hb1 := Lib.hid hb
    clear hall hb
    have c0 := (HC.out wr Hb1.out 2).1
    have c00 := (HC.out wr Hb1.out 2).2
    simp only [List.getElem?_toArray, List.getElem?_cons_succ, List.getElem?_cons_zero] at c0 c00
    have lt0 : w.heap.size < wr.heap.size := lt_cell c0
    have lt1 : w.heap.size + 1 < wr.heap.size := lt_cell c00
    by_cases hlt : k < n1
    · obtain ⟨b, o, ep0, ep1, rfl, hb1, x0, x1, x2, g0, g1⟩ := BdsAt.cells H1.out (show k < l.length by rw [← N1.out]; exact hlt)
      obtain ⟨b', o', eq0, eq1, rfl, hb2, y0, y1, y2, h0, h1⟩ := BdsAt.cells H2.out (show k < m.length by rw [← N2.out]; exact hlt)
      have x0 := (Hb.out.cell (p := ⟨b, _, none⟩) (Nat.lt_of_lt_of_le hb1 hB)).trans x0
      have x1 := (Hb.out.cell (p := ⟨b, _, none⟩) (Nat.lt_of_lt_of_le hb1 hB)).trans x1
      have x2 := (Hb.out.cell (p := ⟨b, _, none⟩) (Nat.lt_of_lt_of_le hb1 hB)).trans x2
      have y0 := (Hb.out.cell (p := ⟨b', _, none⟩) (Nat.lt_of_lt_of_le hb2 hB)).trans y0
      have y1 := (Hb.out.cell (p := ⟨b', _, none⟩) (Nat.lt_of_lt_of_le hb2 hB)).trans y1
      have y2 := (Hb.out.cell (p := ⟨b', _, none⟩) (Nat.lt_of_lt_of_le hb2 hB)).trans y2
      have lt2 : b < wr.heap.size := Nat.lt_of_lt_of_le hb1 (Nat.le_trans hB Hb.out.size)
      have lt3 : b' < wr.heap.size := Nat.lt_of_lt_of_le hb2 (Nat.le_trans hB Hb.out.size)
      have HF1 := Lib.hid (HF.out k hlt)
      have HA1 : Hid (Bd.eq (l.getD k default) (m.getD k default) = true → ∀ i, i < k + 1 → Bd.eq (l.getD i default) (m.getD i default) = true) := Lib.hid (fun h i hi => by
        by_cases e : i = k
        · rw [e]; exact h
        · exact Hall.out i (by omega))
      have R1 := Lib.hid (W1.out k hlt); have R2 := Lib.hid (W2.out k hlt)
      generalize l.getD k default = a at *
      generalize m.getD k default = z at *
      generalize hl1 : a.locals.length = l1 at *
      generalize hl2 : z.locals.length = l2 at *
      generalize hl3 : a.nodes.length = l3 at *
      generalize hl4 : z.nodes.length = l4 at *
      have G0 := Lib.hid g0; have G1 := Lib.hid g1; have K0 := Lib.hid h0; have K1 := Lib.hid h1
      clear g0 g1 h0 h1
      have M1 := Lib.hid hl1; have M2 := Lib.hid hl2; have M3 := Lib.hid hl3; have M4 := Lib.hid hl4
      clear hl1 hl2 hl3 hl4
      obtain ⟨P0, pc0⟩ := ep0
      obtain ⟨Q0, qc0⟩ := eq0
      obtain ⟨P1, pc1⟩ := ep1
      obtain ⟨Q1, qc1⟩ := eq1
      dsimp only at *
      go_upto_region 6 with (fail)
      go_cut [6, 7] (fun a6 a7 wx => ∃ g h : Nat, a6 = .pointer (some ⟨g, 0, none⟩) ∧ a7 = .pointer (some ⟨h, 0, none⟩) ∧ wx.heap[g]? = some (.cells #[.slice P0 l1 pc0, .int .i64 a.stack, .slice P1 l3 pc1] 57 (0, 0)) ∧ wx.heap[h]? = some (.cells #[.slice Q0 l2 qc0, .int .i64 z.stack, .slice Q1 l4 qc1] 57 (0, 0)) ∧ Below wr.heap.size wr wx)
      case first =>
        go_region
        · go_wp2
          go_meet
          exact ⟨wr.heap.size, wr.heap.size + 1, rfl, rfl, (two_new wr _ _ _).1, (two_new wr _ _ _).2.1, (two_new wr _ _ _).2.2⟩
        · go_wp2
          go_meet
          exact ⟨wr.heap.size + 1, wr.heap.size, rfl, rfl, (two_new wr _ _ _).2.1, (two_new wr _ _ _).1, (two_new wr _ _ _).2.2⟩
      case rest =>
        obtain ⟨g, h, rfl, rfl, k0, k1, hbc⟩ := hcut
        have HBc := Lib.hid (Hb.out.trans (hbc.mono Hb.out.size))
        have HBc1 := Lib.hid (Hb1.out.trans (hbc.mono Hb1.out.size))
        have T : Hid (∀ W, Below wc.heap.size wc W → W.cell? ⟨g, 0, none⟩ = some (.slice P0 l1 pc0) ∧ W.cell? ⟨g, 1, none⟩ = some (.int .i64 a.stack) ∧ W.cell? ⟨g, 2, none⟩ = some (.slice P1 l3 pc1) ∧ W.cell? ⟨h, 0, none⟩ = some (.slice Q0 l2 qc0) ∧ W.cell? ⟨h, 1, none⟩ = some (.int .i64 z.stack) ∧ W.cell? ⟨h, 2, none⟩ = some (.slice Q1 l4 qc1)) := Lib.hid (fun W hW => by
          have e1 := (hW.block g (lt_blk k0)).trans k0
          have e2 := (hW.block h (lt_blk k1)).trans k1
          exact ⟨by rw [cell_blk (T := 57) e1]; rfl, by rw [cell_blk (T := 57) e1]; rfl, by rw [cell_blk (T := 57) e1]; rfl, by rw [cell_blk (T := 57) e2]; rfl, by rw [cell_blk (T := 57) e2]; rfl, by rw [cell_blk (T := 57) e2]; rfl⟩)
        have HV : Hid (∀ W, Below wc.heap.size wc W → Calls Try.prog 34 #[.slice P0 l1 pc0, .slice Q0 l2 qc0] W fun e w' => e = .returned (.bool (eqL Vl.eq a.locals z.locals)) ∧ Below W.heap.size W w') := Lib.hid (fun W hW => by
          have hW := HBc.out.trans (hW.mono HBc.out.size)
          exact same_values _ _ _ _ M1.out.symm M2.out.symm (by rw [← M1.out]; exact R1.out.1) (by rw [← M2.out]; exact R2.out.1) (P0, pc0) (Q0, qc0) B W (G0.out.below (hW.mono hB)) (K0.out.below (hW.mono hB)) (Nat.le_trans hB hW.size))
        have HBE : Hid (Bd.eq a z = (eqL Vl.eq a.locals z.locals && (decide (a.stack = z.stack) && eqL Nd.eq a.nodes z.nodes))) := Lib.hid rfl
        have HEN := Lib.hid (eqL_iff (f := Nd.eq) (l := a.nodes) (m := z.nodes))
        rw [M3.out, M4.out] at HEN
        have L3 : l3 ≤ 4000000 := by rw [← M3.out]; exact R1.out.2.1
        have L4 : l4 ≤ 4000000 := by rw [← M4.out]; exact R2.out.2.1
        have R3 : Hid (∀ i, i < l3 → NdSmall (a.nodes.getD i default)) := Lib.hid (by rw [← M3.out]; exact R1.out.2.2)
        have R4 : Hid (∀ i, i < l4 → NdSmall (z.nodes.getD i default)) := Lib.hid (by rw [← M4.out]; exact R2.out.2.2)
        clear R1 R2 k0 k1 hbc x0 x1 x2 y0 y1 y2 c0 c00
        generalize Bd.eq a z = q at *
        generalize eqL Vl.eq a.locals z.locals = rl at *
        generalize eqL Nd.eq a.nodes z.nodes = rn at *
        obtain ⟨al, ks, an⟩ := a
        obtain ⟨zl, kz, zn⟩ := z
        dsimp only at *
        obtain ⟨x0, x1, x2, y0, y1, y2⟩ := T.out wc (Below.refl _ _)
        go_wp2_with fail
        refine (HV.out wc (Below.refl _ _)).mono ?_
        rintro e w3 ⟨rfl, hb3⟩
        clear x0 x1 x2 y0 y1 y2 HV
        obtain ⟨x0, x1, x2, y0, y1, y2⟩ := T.out w3 hb3
        have HB3 := Lib.hid (HBc.out.trans (hb3.mono HBc.out.size))
        have HB31 := Lib.hid (HBc1.out.trans (hb3.mono HBc1.out.size))
        have T3 : Hid (∀ W, Below w3.heap.size w3 W → W.cell? ⟨g, 2, none⟩ = some (.slice P1 l3 pc1) ∧ W.cell? ⟨h, 2, none⟩ = some (.slice Q1 l4 qc1)) := Lib.hid (fun W hW => by
          obtain ⟨_, _, a1, _, _, a2⟩ := T.out W (hb3.trans (hW.mono hb3.size))
          exact ⟨a1, a2⟩)
        clear hb3
        cases rl
        · have HN := Lib.hid (HF1.out (by rw [HBE.out]; rfl))
          go_wp2_with fail
          go_ret
          exact ⟨ret_bool (by rw [HR.out, HN.out]), HB3.out⟩
        by_cases g0 : ks = kz
        rotate_left
        · have d1 : (ks == kz) = false := by rw [beq_eq_false_iff_ne]; exact g0
          have d2 : decide (ks = kz) = false := decide_eq_false g0
          have HN := Lib.hid (HF1.out (by rw [HBE.out, d2]; rfl))
          go_wp2_with fail
          go_ret
          exact ⟨ret_bool (by rw [HR.out, HN.out]), HB3.out⟩
        subst g0
        have HBR : Hid (q = rn) := Lib.hid (by rw [HBE.out]; simp)
        clear HBE
        by_cases hne : l3 = l4
        rotate_left
        · have Hf : Hid (rn = false) := Lib.hid (by
            cases rn with
            | false => rfl
            | true => exact absurd ((HEN.out.1 rfl).1) hne)
          have HN := Lib.hid (HF1.out (by rw [HBR.out, Hf.out]))
          have d1 : ((l3 : Int) == l4) = false := by rw [beq_eq_false_iff_ne]; omega
          have d2 : decide ((l3 : Int) = l4) = false := decide_eq_false (by omega)
          go_wp2_with fail
          go_ret
          exact ⟨ret_bool (by rw [HR.out, HN.out]), HB3.out⟩
        have HT2 : Hid ((∀ i, i < l3 → Nd.eq (an.getD i default) (zn.getD i default) = true) → q = true) := Lib.hid (fun h => by rw [HBR.out]; exact HEN.out.2 ⟨hne, h⟩)
        have HF2 : Hid (∀ i, i < l3 → Nd.eq (an.getD i default) (zn.getD i default) = false → r = false) := Lib.hid (fun i hi h => HF1.out (by
          rw [HBR.out]
          cases rn with
          | false => rfl
          | true => have := (HEN.out.1 rfl).2 i hi; rw [h] at this; cases this))
        have M4 := Lib.hid (M4.out.trans hne.symm)
        subst hne
        clear HEN HBR HF1
        go_wp2_with fail
        clear x0 x1 x2 y0 y1 y2
        go_loopw [8] (fun jv wr2 => ∃ j : Nat, j ≤ l3 ∧ jv = .int .i64 j ∧ (∀ i, i < j → Nd.eq (an.getD i default) (zn.getD i default) = true) ∧ Below w3.heap.size w3 wr2) (fun jv _ => l3 - (intOf jv).toNat)
        case atStart => exact ⟨0, by omega, rfl, fun i hi => by omega, Below.refl _ _⟩
        case round =>
          obtain ⟨j, hj, rfl, hall2, hb2⟩ := hrel
          have Hall2 := Lib.hid hall2
          have Hc := Lib.hid hb2
          have HcB := Lib.hid (HB3.out.trans (hb2.mono HB3.out.size))
          have HcB1 := Lib.hid (HB31.out.trans (hb2.mono HB31.out.size))
          clear hall2 hb2
          obtain ⟨x2, y2⟩ := T3.out wr Hc.out
          by_cases hlt2 : j < l3
          · obtain ⟨b3, o3, ⟨e0, e1⟩, hP, hb3, x3, x4, x5, x6, x7, g0⟩ := NdsAt.cells G1.out (show j < an.length by rw [M3.out]; exact hlt2)
            obtain ⟨b4, o4, ⟨f0, f1⟩, hQ, hb4, y3, y4, y5, y6, y7, h0⟩ := NdsAt.cells K1.out (show j < zn.length by rw [M4.out]; exact hlt2)
            dsimp only at hP hQ
            subst hP hQ
            have T2 : Hid (∀ W, Below wr.heap.size wr W → W.cell? ⟨g, 2, none⟩ = some (.slice (some ⟨b3, o3, none⟩) l3 pc1) ∧ W.cell? ⟨h, 2, none⟩ = some (.slice (some ⟨b4, o4, none⟩) l3 qc1) ∧ W.cell? ⟨b3, o3 + j * 5, none⟩ = some (.slice e0 (an.getD j default).code.length e1) ∧ W.cell? ⟨b3, o3 + j * 5 + 1, none⟩ = some (.int .i64 (an.getD j default).kind) ∧ W.cell? ⟨b3, o3 + j * 5 + 2, none⟩ = some (.int .i64 (an.getD j default).arg) ∧ W.cell? ⟨b3, o3 + j * 5 + 3, none⟩ = some (.int .i64 (an.getD j default).next) ∧ W.cell? ⟨b3, o3 + j * 5 + 4, none⟩ = some (.int .i64 (an.getD j default).alt) ∧ W.cell? ⟨b4, o4 + j * 5, none⟩ = some (.slice f0 (zn.getD j default).code.length f1) ∧ W.cell? ⟨b4, o4 + j * 5 + 1, none⟩ = some (.int .i64 (zn.getD j default).kind) ∧ W.cell? ⟨b4, o4 + j * 5 + 2, none⟩ = some (.int .i64 (zn.getD j default).arg) ∧ W.cell? ⟨b4, o4 + j * 5 + 3, none⟩ = some (.int .i64 (zn.getD j default).next) ∧ W.cell? ⟨b4, o4 + j * 5 + 4, none⟩ = some (.int .i64 (zn.getD j default).alt)) := Lib.hid (fun W hW => by
              have hW1 := Hc.out.trans (hW.mono Hc.out.size)
              have hW := HcB.out.trans (hW.mono HcB.out.size)
              have l1 := Nat.lt_of_lt_of_le hb3 hB
              have l2 := Nat.lt_of_lt_of_le hb4 hB
              exact ⟨(T3.out W hW1).1, (T3.out W hW1).2, (hW.cell (p := ⟨b3, _, none⟩) l1).trans x3, (hW.cell (p := ⟨b3, _, none⟩) l1).trans x4, (hW.cell (p := ⟨b3, _, none⟩) l1).trans x5, (hW.cell (p := ⟨b3, _, none⟩) l1).trans x6, (hW.cell (p := ⟨b3, _, none⟩) l1).trans x7, (hW.cell (p := ⟨b4, _, none⟩) l2).trans y3, (hW.cell (p := ⟨b4, _, none⟩) l2).trans y4, (hW.cell (p := ⟨b4, _, none⟩) l2).trans y5, (hW.cell (p := ⟨b4, _, none⟩) l2).trans y6, (hW.cell (p := ⟨b4, _, none⟩) l2).trans y7⟩)
            have HK : Hid (∀ W, Below wr.heap.size wr W → Calls Try.prog 35 #[ndv (an.getD j default) (e0, e1), ndv (zn.getD j default) (f0, f1)] W fun e w' => ∃ v, e = .returned v ∧ Below W.heap.size W w' ∧ v = .bool (Nd.eq (an.getD j default) (zn.getD j default))) := Lib.hid (fun W hW => by
              have hW := HcB.out.trans (hW.mono HcB.out.size)
              exact (kit_node _ _ (R3.out j hlt2) (R4.out j hlt2) (e0, e1) (f0, f1) B W (g0.below (hW.mono hB)) (h0.below (hW.mono hB)) (Nat.le_trans hB hW.size)).mono fun e w' ⟨h1, h2⟩ => ⟨_, h1, h2, rfl⟩)
            have HG1 := Lib.hid (HF2.out j hlt2)
            have HG2 : Hid (Nd.eq (an.getD j default) (zn.getD j default) = true → ∀ i, i < j + 1 → Nd.eq (an.getD i default) (zn.getD i default) = true) := Lib.hid (fun h i hi => by
              by_cases e : i = j
              · rw [e]; exact h
              · exact Hall2.out i (by omega))
            clear x3 x4 x5 x6 x7 y3 y4 y5 y6 y7 g0 h0
            unfold ndv at HK
            dsimp only at HK
            generalize Nd.eq (an.getD j default) (zn.getD j default) = qn at *
            generalize an.getD j default = an0 at *
            generalize zn.getD j default = zn0 at *
            generalize an0.code.length = al0 at *
            generalize zn0.code.length = zl0 at *
            go_upto_region 12 with (fail)
            clear x2 y2
            cases qn
            · have HN := Lib.hid (HG1.out rfl)
              apply wp_region_relH (H := []) 12 [(Sum.inl _ : TT), (Sum.inl _ : TT), (Sum.inl _ : TT), (Sum.inl _ : TT), (Sum.inl _ : TT), (Sum.inl _ : TT), (Sum.inl _ : TT), (Sum.inl _ : TT), (Sum.inl _ : TT), (Sum.inl _ : TT), (Sum.inl _ : TT), (Sum.inl _ : TT)] (by kernel_rfl) (by kernel_rfl) (fun _ _ _ _ _ h => h) rfl
              simp only [List.take_succ_cons, List.take_zero, List.drop_succ_cons, List.drop_zero]
              iterate 10 (apply rel_isS; (intro W hW hf; obtain ⟨u0, u1, u2, u3, u4, u5, u6, u7, u8, u9, u10, u11⟩ := T2.out W hW; go_simp; first | exact ⟨StayS.refl _ _, rfl⟩ | rfl); simp only [Act.put, List.setIfInBounds_toArray, List.set_cons_succ, List.set_cons_zero])
              apply rel_isS
              · intro W hW hf
                exact rel_callS hW rfl (by go_simp <;> first | rfl | exact ⟨rfl, rfl⟩ | exact ⟨rfl, rfl, rfl⟩) (HK.out W hW)
              simp only [Act.put, List.setIfInBounds_toArray, List.set_cons_succ, List.set_cons_zero]
              iterate 1 (apply rel_isS; (intro W hW hf; go_simp; first | exact ⟨StayS.refl _ _, rfl⟩ | rfl); simp only [Act.put, List.setIfInBounds_toArray, List.set_cons_succ, List.set_cons_zero])
              refine rel_endS ?_
              intro W hW hf
              try simp only [Act.put, List.setIfInBounds_toArray, List.set_cons_succ, List.set_cons_zero]
              refine wpList_nil ?_
              have HW := Lib.hid (HcB.out.trans (hW.mono HcB.out.size))
              clear hW hf
              go_wp2_with fail
              go_ret
              exact ⟨ret_bool (by rw [HR.out, HN.out]), HW.out⟩
            · have HN := Lib.hid (HG2.out rfl)
              apply wp_region_relH (H := []) 12 [(Sum.inl _ : TT), (Sum.inl _ : TT), (Sum.inl _ : TT), (Sum.inl _ : TT), (Sum.inl _ : TT), (Sum.inl _ : TT), (Sum.inl _ : TT), (Sum.inl _ : TT), (Sum.inl _ : TT), (Sum.inl _ : TT), (Sum.inl _ : TT), (Sum.inl _ : TT)] (by kernel_rfl) (by kernel_rfl) (fun _ _ _ _ _ h => h) rfl
              simp only [List.take_succ_cons, List.take_zero, List.drop_succ_cons, List.drop_zero]
              iterate 10 (apply rel_isS; (intro W hW hf; obtain ⟨u0, u1, u2, u3, u4, u5, u6, u7, u8, u9, u10, u11⟩ := T2.out W hW; go_simp; first | exact ⟨StayS.refl _ _, rfl⟩ | rfl); simp only [Act.put, List.setIfInBounds_toArray, List.set_cons_succ, List.set_cons_zero])
              apply rel_isS
              · intro W hW hf
                exact rel_callS hW rfl (by go_simp <;> first | rfl | exact ⟨rfl, rfl⟩ | exact ⟨rfl, rfl, rfl⟩) (HK.out W hW)
              simp only [Act.put, List.setIfInBounds_toArray, List.set_cons_succ, List.set_cons_zero]
              iterate 1 (apply rel_isS; (intro W hW hf; go_simp; first | exact ⟨StayS.refl _ _, rfl⟩ | rfl); simp only [Act.put, List.setIfInBounds_toArray, List.set_cons_succ, List.set_cons_zero])
              refine rel_endS ?_
              intro W hW hf
              try simp only [Act.put, List.setIfInBounds_toArray, List.set_cons_succ, List.set_cons_zero]
              refine wpList_nil ?_
              have HW := Lib.hid (Hc.out.trans (hW.mono Hc.out.size))
              clear hW hf
              go_wp2_with fail
              go_roundw
              case rel => exact ⟨j + 1, by omega, by go_num, HN.out, HW.out⟩
              case measure => simp [intOf]; omega
          · obtain rfl : j = l3 := by omega
            have HN := Lib.hid (HA1.out (HT2.out Hall2.out))
            clear x2 y2
            obtain ⟨x2, y2⟩ := T3.out wr Hc.out
            go_wp2_with fail
            go_roundw
            case rel => exact ⟨k + 1, by omega, by go_num, HN.out, HcB1.out⟩
            case measure => simp [intOf]; omega
    · obtain rfl : k = n1 := by omega
      have HN := Lib.hid (HT.out Hall.out)
      go_wp2_with fail
      go_ret
      exact ⟨ret_bool (by rw [HR.out, HN.out]), Hb.out⟩
end Go.Proofs.Ytbmpjphemjponaa
