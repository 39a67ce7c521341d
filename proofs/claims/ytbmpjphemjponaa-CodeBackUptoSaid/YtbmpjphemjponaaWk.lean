/- code.Bytes. -/
import Derived.Test.YtbmpjphemjponaaWj
set_option linter.unusedSimpArgs false
set_option linter.unusedVariables false
namespace Go.Proofs.Ytbmpjphemjponaa
open Go.RowKit

def bdH (b : Bd) : List UInt8 := (beb 1 b.locals.length ++ b.locals.flatMap vlB) ++ beb 1 b.stack.toNat ++ beb 2 b.nodes.length
def cdH (c : Cd) : List UInt8 := (beb 1 c.shared.length ++ c.shared.flatMap vlB) ++ beb 1 c.mutexes.toNat ++ beb 1 c.bodies.length
theorem chk_ok {c : Cd} (h : chk c = 0) : cdLong c = false ∧ cdFit c = true ∧ allN (ndTy c.shared) c.bodies = true ∧ allN (fun _ n => decide (ndTo n ≤ 1)) c.bodies = true := by
  unfold chk at h
  cases h1 : cdLong c with
  | true => rw [h1] at h; simp at h
  | false =>
    rw [h1] at h
    cases h2 : cdFit c with
    | false => rw [h2] at h; simp at h
    | true =>
      rw [h2] at h
      cases h3 : allN (ndTy c.shared) c.bodies with
      | false => rw [h3] at h; simp at h
      | true =>
        rw [h3] at h
        cases h4 : allN (fun _ n => decide (ndTo n ≤ 1)) c.bodies with
        | false => rw [h4] at h; simp at h
        | true => exact ⟨rfl, rfl, rfl, rfl⟩
theorem fit_c {c : Cd} (h : cdFit c = true) : 0 ≤ c.mutexes ∧ c.mutexes ≤ 16 := by
  unfold cdFit at h
  simp only [Bool.and_eq_true, decide_eq_true_eq] at h
  exact ⟨h.1, h.2.1⟩
theorem fit_st {c : Cd} (h : cdFit c = true) {k : Nat} (hk : k < c.bodies.length) : 0 ≤ (c.bodies.getD k default).stack ∧ (c.bodies.getD k default).stack ≤ 64 := by
  have := fit_bd h hk
  unfold bdFit at this
  simp only [Bool.and_eq_true, decide_eq_true_eq] at this
  exact ⟨this.2.1, this.2.2.1⟩
/-- what code.Bytes answers. -/
def BytesP (c : Cd) (w : World) (e : Ending) (w' : World) : Prop := (chk c ≠ 0 ∧ e = .returned (.tuple #[.slice none 0 0, .int .i64 (chk c)])) ∨ (chk c = 0 ∧ ∃ v, e = .returned (.tuple #[v, .int .i64 0]) ∧ w'.ownsRow w.heap.size 5 1 v (cdB c).length (bcells (cdB c)))
set_option maxRecDepth 100000 in
set_option maxHeartbeats 4000000 in
theorem bytes_any (c : Cd) (s : CdSmall c) (hp : CdIn c) (hn : (cdB c).length ≤ 800000000) (p p2 : Slc) (B : Nat) (w : World) (h1 : VlsAt w B p c.shared) (h2 : BdsAt w B p2 c.bodies) (hB : B ≤ w.heap.size) :
    Calls Try.prog 15 #[cdv c p p2] w fun e w' => BytesP c w e w' ∧ Below w.heap.size w w' := by
  have HC := Lib.hid (fun W (h : Below w.heap.size w W) => check_any c s hp p p2 B W (h1.below (h.mono hB)) (h2.below (h.mono hB)) (Nat.le_trans hB h.size))
  have HP : Hid (∀ e w', ((chk c ≠ 0 ∧ e = .returned (.tuple #[.slice none 0 0, .int .i64 (chk c)])) ∨ (chk c = 0 ∧ ∃ v, e = .returned (.tuple #[v, .int .i64 0]) ∧ w'.ownsRow w.heap.size 5 1 v (cdB c).length (bcells (cdB c)))) → BytesP c w e w') := Lib.hid (fun _ _ h => h)
  have HF1 := Lib.hid (fun h => fit_c (chk_ok (c := c) h).2.1)
  have HF2 := Lib.hid (fun h k hk => fit_st (chk_ok (c := c) h).2.1 (k := k) hk)
  have HF3 := Lib.hid (fun h k hk j hj => fit_nd (chk_ok (c := c) h).2.1 (k := k) hk (j := j) hj)
  have HB0 : Hid (cdB c = cdH c ++ c.bodies.flatMap bdB) := Lib.hid (by unfold cdB cdH; rfl)
  have HH : Hid (cdH c = (beb 1 c.shared.length ++ c.shared.flatMap vlB) ++ beb 1 c.mutexes.toNat ++ beb 1 c.bodies.length) := Lib.hid rfl
  have HS := Lib.hid h1; have H2 := Lib.hid h2; have HX := Lib.hid hp.1; have HXb := Lib.hid hp.2; have HN := Lib.hid hn
  have L1 := s.1; have L2 := s.2.1; have W1 := Lib.hid s.2.2
  clear h1 h2 hp s hn
  unfold cdv at *
  generalize BytesP c w = post at *
  generalize chk c = ck at *
  generalize cdB c = out at *
  generalize cdH c = hd at *
  obtain ⟨sh, mt, bs⟩ := c
  obtain ⟨A, cp⟩ := p
  obtain ⟨A', cp'⟩ := p2
  dsimp only at *
  generalize hm1 : sh.length = n1 at *
  have M1 := Lib.hid hm1
  generalize hm2 : bs.length = n2 at *
  have M2 := Lib.hid hm2
  clear hm1 hm2
  go_enter Try.func15, Try.ntmps15
  go_upto_region 1 with (fail)
  obtain ⟨b0_, hb_⟩ := boxes1 w (.cells #[.slice A n1 cp, .int .i64 mt, .slice A' n2 cp'] 25)
  generalize w.alloc (.cells #[.slice A n1 cp, .int .i64 mt, .slice A' n2 cp'] 25) = w0 at *
  have T0b : Hid (∀ W, Below w0.heap.size w0 W → W.heap[w.heap.size]? = some (.cells #[.slice A n1 cp, .int .i64 mt, .slice A' n2 cp'] 25 (0, 0))) := Lib.hid (fun W hW => (hW.block _ (lt_blk b0_)).trans b0_)
  have T0 : Hid (∀ W, Below w0.heap.size w0 W → W.cell? ⟨w.heap.size, 0, none⟩ = some (.slice A n1 cp) ∧ W.cell? ⟨w.heap.size, 1, none⟩ = some (.int .i64 mt) ∧ W.cell? ⟨w.heap.size, 2, none⟩ = some (.slice A' n2 cp')) := Lib.hid (fun W hW => by have e := (hW.block _ (lt_blk b0_)).trans b0_; exact ⟨by rw [cell_blk e]; rfl, by rw [cell_blk e]; rfl, by rw [cell_blk e]; rfl⟩)
  have BA := Lib.hid hb_
  clear hb_ b0_
  obtain ⟨c0, c1, c2⟩ := T0.out w0 (Below.refl _ _)
  go_wp2_with fail
  refine (HC.out _ BA.out).mono ?_
  rintro e w1 ⟨rfl, hb1⟩
  clear c0 c1 c2 HC
  have HW1 := Lib.hid (BA.out.trans (hb1.mono BA.out.size))
  have T1b := Lib.hid (T0b.out _ hb1)
  have hlt : w.heap.size < w1.heap.size := lt_blk T1b.out
  clear hb1
  by_cases hck : ck = 0
  rotate_left
  · have q : (ck != 0) = true := by simpa using hck
    have HNq := Lib.hid (HP.out _ w1 (.inl ⟨hck, rfl⟩))
    go_wp2_with fail
    go_ret2
    exact ⟨HNq.out, HW1.out⟩
  subst hck
  obtain ⟨m1, m2⟩ := HF1.out (by trivial)
  have HG2 := Lib.hid (HF2.out (by trivial))
  have HG3 := Lib.hid (HF3.out (by trivial))
  clear HF1 HF2 HF3
  obtain ⟨mt, rfl⟩ := Int.eq_ofNat_of_zero_le m1
  have HH : Hid (hd = (beb 1 n1 ++ sh.flatMap vlB) ++ beb 1 mt ++ beb 1 n2) := HH
  have HT : Hid (∀ k, (hd ++ (bs.take k).flatMap bdB).length ≤ 800000000) := Lib.hid (fun k => by
    have h1 := HN.out; have h2 := flat_le bdB bs k
    rw [HB0.out] at h1
    simp only [List.length_append] at h1 ⊢
    omega)
  have HI : Hid (∀ n' l' v' W', Laid w1 w.heap.size (.slice none 0 0) n' l' v' W' → W'.heap[w.heap.size]? = some (.cells #[.slice A n1 cp, .int .i64 mt, .slice A' n2 cp'] 25 (0, 0))) := Lib.hid (fun n' l' v' W' h => (h.keep hlt (by intro e; cases e)).1.trans T1b.out)
  have wm := u64_self mt (by omega); have wn := u64_self n2 (by omega)
  have hlw : w.heap.size ≤ w1.heap.size := by omega
  go_upto_region 4 with (fail)
  apply wp_region_relC (fun W => W.heap[w.heap.size]? = some (.cells #[.slice A n1 cp, .int .i64 mt, .slice A' n2 cp'] 25 (0, 0))) (Laid w1 w.heap.size (.slice none 0 0) 0 [] (.slice none 0 0)) 12 [(Sum.inl _ : TC), (Sum.inl _ : TC), .inr (fun _ => True, fun v1 => Laid w1 w.heap.size (.slice none 0 0) (0 + 1 + 9 * n1) ([] ++ (beb 1 n1 ++ sh.flatMap vlB)) v1), (Sum.inl _ : TC), (Sum.inl _ : TC), (Sum.inl _ : TC), .inr (fun _ => True, fun v1 => Laid w1 w.heap.size (.slice none 0 0) (0 + 1 + 9 * n1 + 1) ([] ++ (beb 1 n1 ++ sh.flatMap vlB) ++ beb 1 mt) v1), (Sum.inl _ : TC), (Sum.inl _ : TC), (Sum.inl _ : TC), (Sum.inl _ : TC), .inr (fun _ => True, fun v1 => Laid w1 w.heap.size (.slice none 0 0) (0 + 1 + 9 * n1 + 1 + 1) ([] ++ (beb 1 n1 ++ sh.flatMap vlB) ++ beb 1 mt ++ beb 1 n2) v1)] [false, false, true, false, false, false, true, false, false, false, false, true] (by kernel_rfl) (by kernel_rfl) (by kernel_rfl) rfl rfl (Laid.keeps _ _ _ _ _ _ hlw) (T1b.out) (Laid.start (World.ownsRow_nil _ _ _ _))
  simp only [List.take_succ_cons, List.take_zero, List.drop_succ_cons, List.drop_zero]
  iterate 2 (apply rel_isC; (intro W hW hf; have u0 := cell_blk hW 0; go_simp; first | exact ⟨⟨hW, Below.refl _ _⟩, rfl⟩ | exact ⟨Below.refl _ _, rfl⟩ | rfl); simp only [Act.put, List.setIfInBounds_toArray, List.set_cons_succ, List.set_cons_zero])
  apply rel_effC
  · intro W hW hS
    exact rel_callE (by first | rfl | (go_simp; done) | (go_simp; simp)) (by go_simp <;> first | rfl | exact ⟨rfl, rfl⟩ | exact ⟨rfl, rfl, rfl⟩) (Laid.then _ hS (values_any sh n1 M1.out.symm HX.out L1 (A, cp) B w.heap.size _ 0 [] (by omega) W hS.1 (Nat.le_trans hlw hS.2.2.1.size) hB (HS.out.below ((HW1.out.trans hS.2.1).mono hB))) (fun v' W' h => HI.out _ _ v' W' h))
  · exact fun v => Laid.keeps _ _ _ _ _ _ hlw
  intro v1
  simp only [Act.put, List.setIfInBounds_toArray, List.set_cons_succ, List.set_cons_zero]
  iterate 3 (apply rel_isC; (intro W hW hf; have u0 := cell_blk hW 1; go_simp; first | exact ⟨⟨hW, Below.refl _ _⟩, rfl⟩ | exact ⟨Below.refl _ _, rfl⟩ | rfl); simp only [Act.put, List.setIfInBounds_toArray, List.set_cons_succ, List.set_cons_zero])
  apply rel_effC
  · intro W hW hS
    exact rel_callE (by first | rfl | (go_simp; done) | (go_simp; simp)) (by go_simp <;> first | rfl | exact ⟨rfl, rfl⟩ | exact ⟨rfl, rfl, rfl⟩) (hS.put hlw mt 1 (by omega) (by omega) (by omega) _ (fun v' W' h => HI.out _ _ v' W' h))
  · exact fun v => Laid.keeps _ _ _ _ _ _ hlw
  intro v2
  simp only [Act.put, List.setIfInBounds_toArray, List.set_cons_succ, List.set_cons_zero]
  iterate 4 (apply rel_isC; (intro W hW hf; have u0 := cell_blk hW 2; go_simp; first | exact ⟨⟨hW, Below.refl _ _⟩, rfl⟩ | exact ⟨Below.refl _ _, rfl⟩ | rfl); simp only [Act.put, List.setIfInBounds_toArray, List.set_cons_succ, List.set_cons_zero])
  apply rel_effC
  · intro W hW hS
    exact rel_callE (by first | rfl | (go_simp; done) | (go_simp; simp)) (by go_simp <;> first | rfl | exact ⟨rfl, rfl⟩ | exact ⟨rfl, rfl, rfl⟩) (hS.put hlw n2 1 (by omega) (by omega) (by omega) _ (fun v' W' h => HI.out _ _ v' W' h))
  · exact fun v => Laid.keeps _ _ _ _ _ _ hlw
  intro v3
  simp only [Act.put, List.setIfInBounds_toArray, List.set_cons_succ, List.set_cons_zero]
  refine rel_endC ?_
  intro W hW hS hf
  try simp only [Act.put, List.setIfInBounds_toArray, List.set_cons_succ, List.set_cons_zero]
  have HS3 := Lib.hid hS
  have c2 := cell_blk hW 2
  clear hW hf hS wm wn
  go_wp2_with fail
  clear c2
  go_loopw [5, 30] (fun u iv wr => ∃ (k : Nat) (v4 : Value), v4 = u ∧ k ≤ n2 ∧ iv = .int .i64 k ∧ Laid w1 w.heap.size (.slice none 0 0) (hd ++ (bs.take k).flatMap bdB).length (hd ++ (bs.take k).flatMap bdB) v4 wr) (fun _ iv _ => n2 - (intOf iv).toNat)
  case atStart => exact ⟨0, _, rfl, by omega, rfl, HS3.out.eq (by rw [HH.out]; simp) (by rw [HH.out]; simp only [List.length_append, beb_length, vls_len, M1.out, List.take_zero, List.flatMap_nil, List.length_nil] <;> omega)⟩
  case round =>
    obtain ⟨wo, rfl⟩ : ∃ x, x = wr := ⟨wr, rfl⟩
    obtain ⟨k, v4, rfl, hk, rfl, hl⟩ := hrel
    have HL := Lib.hid hl
    clear hl HS3
    by_cases hlt2 : k < n2
    · obtain ⟨b, o, ⟨P0, pc0⟩, ⟨Q1, qc1⟩, hA', hb1, x0, x1, x2, hv, hnn⟩ := BdsAt.cells H2.out (show k < bs.length by rw [M2.out]; exact hlt2)
      dsimp only at hA' x0 x2
      subst hA'
      have HBw := Lib.hid (HW1.out.trans HL.out.2.1)
      have y0 := (HBw.out.cell (p := ⟨b, _, none⟩) (Nat.lt_of_lt_of_le hb1 hB)).trans x0
      have y1 := (HBw.out.cell (p := ⟨b, _, none⟩) (Nat.lt_of_lt_of_le hb1 hB)).trans x1
      have y2 := (HBw.out.cell (p := ⟨b, _, none⟩) (Nat.lt_of_lt_of_le hb1 hB)).trans x2
      have R1 := Lib.hid (W1.out k hlt2); have R2 := Lib.hid (HXb.out k hlt2)
      have HV := Lib.hid hv; have HNn := Lib.hid hnn
      have HFl := Lib.hid (flat_snoc bdB bs k (by rw [M2.out]; exact hlt2))
      have HT1 := Lib.hid (HT.out (k + 1)); have HT0 := Lib.hid (HT.out k)
      obtain ⟨s1, s2⟩ := HG2.out k hlt2
      have HF3k := Lib.hid (HG3.out k hlt2)
      have HBd : Hid (bdB (bs.getD k default) = (beb 1 (bs.getD k default).locals.length ++ (bs.getD k default).locals.flatMap vlB) ++ beb 1 (bs.getD k default).stack.toNat ++ beb 2 (bs.getD k default).nodes.length ++ (bs.getD k default).nodes.flatMap ndB) := Lib.hid rfl
      clear x0 x1 x2 hv hnn
      generalize bdB (bs.getD k default) = bb at *
      generalize bs.getD k default = a at *
      obtain ⟨al, ks, an⟩ := a
      dsimp only at *
      obtain ⟨ks, rfl⟩ := Int.eq_ofNat_of_zero_le s1
      have HBd : Hid (bb = (beb 1 al.length ++ al.flatMap vlB) ++ beb 1 ks ++ beb 2 an.length ++ an.flatMap ndB) := HBd
      have L3 : al.length ≤ 4000000 := R1.out.1
      have L4 : an.length ≤ 4000000 := R1.out.2.1
      have R1n : Hid (∀ j, j < an.length → (an.getD j default).code.length ≤ 4000000) := Lib.hid R1.out.2.2
      have R2n : Hid (∀ j, j < an.length → IsIn (an.getD j default).code) := Lib.hid R2.out.2
      have R2v : Hid (VsIn al) := Lib.hid R2.out.1
      clear R1 R2
      generalize hl3 : an.length = l3 at *
      have M3 := Lib.hid hl3
      generalize hl1 : al.length = l1 at *
      have M4 := Lib.hid hl1
      clear hl3 hl1
      generalize hpre : hd ++ (bs.take k).flatMap bdB = pre at *
      have HPRE := Lib.hid hpre
      clear hpre
      have HT2 : Hid (∀ j, (pre ++ ((beb 1 l1 ++ al.flatMap vlB) ++ beb 1 ks ++ beb 2 l3) ++ (an.take j).flatMap ndB).length ≤ 800000000) := Lib.hid (fun j => by
        have h1 := HT1.out; have h2 := flat_le ndB an j
        rw [HFl.out, ← List.append_assoc, HPRE.out, HBd.out] at h1
        simp only [List.length_append] at h1 ⊢
        omega)
      generalize hpl : pre.length = pl at *
      have HPL := Lib.hid hpl
      clear hpl
      have hpl9 : pl + 4 + 9 * l1 ≤ 800000000 := by
        have := HT2.out 0
        simp only [List.length_append, beb_length, vls_len, HPL.out, M4.out, List.take_zero, List.flatMap_nil, List.length_nil] at this
        omega
      have hsz : w1.heap.size ≤ wo.heap.size := HL.out.2.2.1.size
      go_upto_region 8 with (fail)
      clear y0 y1 y2
      have HNE2 := Lib.hid (own_new HL.out.1 (Nat.le_refl _))
      obtain ⟨b0_, hb_⟩ := boxes1 wo (.cells #[.slice P0 l1 pc0, .int .i64 ks, .slice Q1 l3 qc1] 57)
      generalize wo.alloc (.cells #[.slice P0 l1 pc0, .int .i64 ks, .slice Q1 l3 qc1] 57) = wi at *
      have Tib : Hid (∀ W, Below wi.heap.size wi W → W.heap[wo.heap.size]? = some (.cells #[.slice P0 l1 pc0, .int .i64 ks, .slice Q1 l3 qc1] 57 (0, 0))) := Lib.hid (fun W hW => (hW.block _ (lt_blk b0_)).trans b0_)
      have Ti : Hid (∀ W, Below wi.heap.size wi W → W.cell? ⟨wo.heap.size, 0, none⟩ = some (.slice P0 l1 pc0) ∧ W.cell? ⟨wo.heap.size, 1, none⟩ = some (.int .i64 ks) ∧ W.cell? ⟨wo.heap.size, 2, none⟩ = some (.slice Q1 l3 qc1)) := Lib.hid (fun W hW => by have e := (hW.block _ (lt_blk b0_)).trans b0_; exact ⟨by rw [cell_blk e]; rfl, by rw [cell_blk e]; rfl, by rw [cell_blk e]; rfl⟩)
      have Bi := Lib.hid hb_
      clear hb_ b0_
      have hlt3 : wo.heap.size < wi.heap.size := lt_blk (Tib.out wi (Below.refl _ _))
      have hBi : w.heap.size ≤ wi.heap.size := by omega
      have HIi : Hid (∀ n' l' v' W', Laid wi w.heap.size v4 n' l' v' W' → W'.heap[wo.heap.size]? = some (.cells #[.slice P0 l1 pc0, .int .i64 ks, .slice Q1 l3 qc1] 57 (0, 0))) := Lib.hid (fun n' l' v' W' h => (h.keep hlt3 HNE2.out).1.trans (Tib.out wi (Below.refl _ _)))
      have wk := u64_self ks (by omega); have wl := u64_self l3 (by omega)
      have HBi := Lib.hid (HBw.out.trans (Bi.out.mono (by omega)))
      apply wp_region_relC (fun W => W.heap[wo.heap.size]? = some (.cells #[.slice P0 l1 pc0, .int .i64 ks, .slice Q1 l3 qc1] 57 (0, 0))) (Laid wi w.heap.size v4 pl pre v4) 13 [(Sum.inl _ : TC), (Sum.inl _ : TC), (Sum.inl _ : TC), .inr (fun _ => True, fun v1 => Laid wi w.heap.size v4 (pl + 1 + 9 * l1) (pre ++ (beb 1 l1 ++ al.flatMap vlB)) v1), (Sum.inl _ : TC), (Sum.inl _ : TC), (Sum.inl _ : TC), .inr (fun _ => True, fun v1 => Laid wi w.heap.size v4 (pl + 1 + 9 * l1 + 1) (pre ++ (beb 1 l1 ++ al.flatMap vlB) ++ beb 1 ks) v1), (Sum.inl _ : TC), (Sum.inl _ : TC), (Sum.inl _ : TC), (Sum.inl _ : TC), .inr (fun _ => True, fun v1 => Laid wi w.heap.size v4 (pl + 1 + 9 * l1 + 1 + 2) (pre ++ (beb 1 l1 ++ al.flatMap vlB) ++ beb 1 ks ++ beb 2 l3) v1)] [false, false, false, true, false, false, false, true, false, false, false, false, true] (by kernel_rfl) (by kernel_rfl) (by kernel_rfl) rfl rfl (Laid.keeps _ _ _ _ _ _ hBi) (Tib.out _ (Below.refl _ _).drew) (Laid.start (own_below HL.out.1 Bi.out))
      simp only [List.take_succ_cons, List.take_zero, List.drop_succ_cons, List.drop_zero]
      iterate 3 (apply rel_isC; (intro W hW hf; have u0 := cell_blk hW 0; go_simp; first | exact ⟨⟨hW, Below.refl _ _⟩, rfl⟩ | exact ⟨Below.refl _ _, rfl⟩ | rfl); simp only [Act.put, List.setIfInBounds_toArray, List.set_cons_succ, List.set_cons_zero])
      apply rel_effC
      · intro W hW hS
        exact rel_callE (by first | rfl | (go_simp; done) | (go_simp; simp)) (by go_simp <;> first | rfl | exact ⟨rfl, rfl⟩ | exact ⟨rfl, rfl, rfl⟩) (Laid.then _ hS (values_any al l1 M4.out.symm R2v.out L3 (P0, pc0) B w.heap.size _ pl pre (by omega) W hS.1 (Nat.le_trans hBi hS.2.2.1.size) hB (HV.out.below ((HBi.out.trans hS.2.1).mono hB))) (fun v' W' h => HIi.out _ _ v' W' h))
      · exact fun v => Laid.keeps _ _ _ _ _ _ hBi
      intro v5
      simp only [Act.put, List.setIfInBounds_toArray, List.set_cons_succ, List.set_cons_zero]
      iterate 3 (apply rel_isC; (intro W hW hf; have u0 := cell_blk hW 1; go_simp; first | exact ⟨⟨hW, Below.refl _ _⟩, rfl⟩ | exact ⟨Below.refl _ _, rfl⟩ | rfl); simp only [Act.put, List.setIfInBounds_toArray, List.set_cons_succ, List.set_cons_zero])
      apply rel_effC
      · intro W hW hS
        exact rel_callE (by first | rfl | (go_simp; done) | (go_simp; simp)) (by go_simp <;> first | rfl | exact ⟨rfl, rfl⟩ | exact ⟨rfl, rfl, rfl⟩) (hS.put hBi ks 1 (by omega) (by omega) (by omega) _ (fun v' W' h => HIi.out _ _ v' W' h))
      · exact fun v => Laid.keeps _ _ _ _ _ _ hBi
      intro v6
      simp only [Act.put, List.setIfInBounds_toArray, List.set_cons_succ, List.set_cons_zero]
      iterate 4 (apply rel_isC; (intro W hW hf; have u0 := cell_blk hW 2; go_simp; first | exact ⟨⟨hW, Below.refl _ _⟩, rfl⟩ | exact ⟨Below.refl _ _, rfl⟩ | rfl); simp only [Act.put, List.setIfInBounds_toArray, List.set_cons_succ, List.set_cons_zero])
      apply rel_effC
      · intro W hW hS
        exact rel_callE (by first | rfl | (go_simp; done) | (go_simp; simp)) (by go_simp <;> first | rfl | exact ⟨rfl, rfl⟩ | exact ⟨rfl, rfl, rfl⟩) (hS.put hBi l3 2 (by omega) (by omega) (by omega) _ (fun v' W' h => HIi.out _ _ v' W' h))
      · exact fun v => Laid.keeps _ _ _ _ _ _ hBi
      intro v7
      simp only [Act.put, List.setIfInBounds_toArray, List.set_cons_succ, List.set_cons_zero]
      refine rel_endC ?_
      intro W hW hS hf
      try simp only [Act.put, List.setIfInBounds_toArray, List.set_cons_succ, List.set_cons_zero]
      have HS7 := Lib.hid (HL.out.step Bi.out hlw hS)
      have c2 := cell_blk hW 2
      clear hW hf hS wk wl
      go_wp2_with fail
      clear c2
      go_loopw [5, 50] (fun u iv wr => ∃ (j : Nat) (v8 : Value), v8 = u ∧ j ≤ l3 ∧ iv = .int .i64 j ∧ Laid w1 w.heap.size (.slice none 0 0) (pre ++ ((beb 1 l1 ++ al.flatMap vlB) ++ beb 1 ks ++ beb 2 l3) ++ (an.take j).flatMap ndB).length (pre ++ ((beb 1 l1 ++ al.flatMap vlB) ++ beb 1 ks ++ beb 2 l3) ++ (an.take j).flatMap ndB) v8 wr) (fun _ iv _ => l3 - (intOf iv).toNat)
      case atStart => exact ⟨0, _, rfl, by omega, rfl, HS7.out.eq (by simp) (by simp only [List.length_append, beb_length, vls_len, M4.out, HPL.out, List.take_zero, List.flatMap_nil, List.length_nil]; omega)⟩
      case round =>
        obtain ⟨j, v8, rfl, hj, rfl, hl2⟩ := hrel
        have HL2 := Lib.hid hl2
        clear hl2 HS7
        by_cases hlt4 : j < l3
        · obtain ⟨b3, o3, ⟨e0, e1⟩, hP, hb3, x3, x4, x5, x6, x7, g0⟩ := NdsAt.cells HNn.out (show j < an.length by rw [M3.out]; exact hlt4)
          dsimp only at hP x3
          subst hP
          have HB2 := Lib.hid (HW1.out.trans HL2.out.2.1)
          have lb : b3 < w.heap.size := Nat.lt_of_lt_of_le hb3 hB
          have x3 := (HB2.out.cell (p := ⟨b3, _, none⟩) lb).trans x3
          have x4 := (HB2.out.cell (p := ⟨b3, _, none⟩) lb).trans x4
          have x5 := (HB2.out.cell (p := ⟨b3, _, none⟩) lb).trans x5
          have x6 := (HB2.out.cell (p := ⟨b3, _, none⟩) lb).trans x6
          have x7 := (HB2.out.cell (p := ⟨b3, _, none⟩) lb).trans x7
          have HF4 := Lib.hid (flat_snoc ndB an j (by rw [M3.out]; exact hlt4))
          have HNd := Lib.hid (fun (W : World) (v : Value) (hW : Below w.heap.size w W) (hn : _) (hown : _) => laidnode_any (an.getD j default) n1 l1 l3 mt (e0, e1) B w.heap.size v (pre ++ ((beb 1 l1 ++ al.flatMap vlB) ++ beb 1 ks ++ beb 2 l3) ++ (an.take j).flatMap ndB) (by omega) (by omega) (by omega) (by omega) (R1n.out j hlt4) (R2n.out j hlt4) (HF3k.out j hlt4).1 (HF3k.out j hlt4).2 hn W hown hW.size hB (g0.below (hW.mono hB)))
          have HTj := Lib.hid (HT2.out (j + 1))
          have L5 : (an.getD j default).code.length ≤ 4000000 := R1n.out j hlt4
          rw [HF4.out, ← List.append_assoc] at HTj
          clear g0
          unfold ndv at HNd
          generalize ndB (an.getD j default) = nb at *
          generalize an.getD j default = nd at *
          obtain ⟨cl, n2', n3, n4, n5⟩ := nd
          dsimp only at *
          generalize cl.length = l5 at *
          go_upto_region 12 with (fail)
          clear x3 x4 x5 x6 x7
          obtain ⟨b0_, hb_⟩ := boxes1 wr (.cells #[.slice e0 l5 e1, .int .i64 n2', .int .i64 n3, .int .i64 n4, .int .i64 n5] 60)
          generalize wr.alloc (.cells #[.slice e0 l5 e1, .int .i64 n2', .int .i64 n3, .int .i64 n4, .int .i64 n5] 60) = wx at *
          have Tx : Hid (∀ W, Below wx.heap.size wx W → W.cell? ⟨wr.heap.size, 0, none⟩ = some (.slice e0 l5 e1) ∧ W.cell? ⟨wr.heap.size, 1, none⟩ = some (.int .i64 n2') ∧ W.cell? ⟨wr.heap.size, 2, none⟩ = some (.int .i64 n3) ∧ W.cell? ⟨wr.heap.size, 3, none⟩ = some (.int .i64 n4) ∧ W.cell? ⟨wr.heap.size, 4, none⟩ = some (.int .i64 n5)) := Lib.hid (fun W hW => by have e := (hW.block _ (lt_blk b0_)).trans b0_; exact ⟨by rw [cell_blk e]; rfl, by rw [cell_blk e]; rfl, by rw [cell_blk e]; rfl, by rw [cell_blk e]; rfl, by rw [cell_blk e]; rfl⟩)
          have Bx := Lib.hid hb_
          clear hb_ b0_
          obtain ⟨z0, z1, z2, z3, z4⟩ := Tx.out wx (Below.refl _ _)
          go_wp2_with fail
          refine (HNd.out wx v8 (HB2.out.trans (Bx.out.mono HB2.out.size)) HTj.out (own_below HL2.out.1 Bx.out)).mono ?_
          rintro e w9 ⟨v9, rfl, h9⟩
          have H9 := Lib.hid (HL2.out.step Bx.out hlw h9)
          clear h9 z0 z1 z2 z3 z4
          go_wp2_with fail
          go_roundw
          case rel => exact ⟨j + 1, v9, rfl, by omega, by go_num, H9.out.eq (by rw [HF4.out]; simp only [List.append_assoc]) (by rw [HF4.out]; simp only [List.append_assoc])⟩
          case measure => simp [intOf]; omega
        · obtain rfl : l3 = j := by omega
          have HE : Hid (an.take l3 = an) := Lib.hid (List.take_of_length_le (by rw [M3.out]; exact Nat.le_refl _))
          go_wp2_with fail
          go_roundw
          case rel => exact ⟨k + 1, v8, rfl, by omega, by go_num, by have := HL2.out; rw [HE.out] at this; exact this.eq (by rw [HFl.out, HBd.out, ← HPRE.out]; simp only [List.append_assoc]) (by rw [HFl.out, HBd.out, ← HPRE.out]; simp only [List.append_assoc])⟩
          case measure => simp [intOf]; omega
    · obtain rfl : n2 = k := by omega
      have HE : Hid (bs.take n2 = bs) := Lib.hid (List.take_of_length_le (by rw [M2.out]; exact Nat.le_refl _))
      have HQ := Lib.hid (HP.out (.returned (.tuple #[v4, .int .i64 0])) wo (.inr ⟨by trivial, v4, rfl, by have := HL.out.1; rw [HE.out] at this; rw [HB0.out]; exact this⟩))
      go_wp2_with fail
      go_ret2
      exact ⟨HQ.out, HW1.out.trans HL.out.2.1⟩
end Go.Proofs.Ytbmpjphemjponaa
