/- assizelaw09.CodeCopies. -/
import Derived.Test.YtbmpjphemjponaaWl
import Derived.Test.YtbmpjphemjponaaVk
import Derived.Test.YtbmpjphemjponaaSd
set_option linter.unusedSimpArgs false
set_option linter.unusedVariables false
namespace Go.Proofs.Ytbmpjphemjponaa
open Go.RowKit

theorem mem_sum_le {α : Type} [Inhabited α] (f : α → Nat) (l : List α) {i : Nat} (hi : i < l.length) : f (l.getD i default) ≤ (l.map f).sum := by
  have h1 := psum_succ f l i hi
  have h2 := psum_mono f l (i + 1)
  omega
theorem len_sum_le {α : Type} (f : α → Nat) (hf : ∀ a, 1 ≤ f a) (l : List α) : l.length ≤ (l.map f).sum := by
  induction l with
  | nil => simp
  | cons a l ih => have := hf a; simp only [List.map_cons, List.sum_cons, List.length_cons]; omega
theorem small_of_wt {c : Cd} (h : c.wt ≤ 4000000) : CdSmall c := by
  unfold Cd.wt at h
  have hb := len_sum_le Bd.wt (fun b => by unfold Bd.wt; omega) c.bodies
  refine ⟨by omega, by omega, fun i hi => ?_⟩
  have h2 := mem_sum_le Bd.wt c.bodies hi
  generalize c.bodies.getD i default = b at *
  have e2 : b.wt = 1 + b.locals.length + (b.nodes.map Nd.wt).sum := rfl
  have hn := len_sum_le Nd.wt (fun b => by unfold Nd.wt; omega) b.nodes
  refine ⟨by omega, by omega, fun j hj => ?_⟩
  have h3 := mem_sum_le Nd.wt b.nodes hj
  have e3 : (b.nodes.getD j default).wt = 1 + (b.nodes.getD j default).code.length := rfl
  unfold NdSmall
  omega
theorem OwnCd.below {w w' : World} {L : Nat} {v : Value} {c : Cd} (h : OwnCd w L v c) (hb : Below w.heap.size w w') : OwnCd w' L v c := by
  obtain ⟨p, q, h1, h2, h3⟩ := h
  exact ⟨p, q, h1, h2.below hb, h3.below hb⟩
theorem OwnCd.le {w : World} {L L' : Nat} {v : Value} {c : Cd} (h : OwnCd w L v c) (hl : L' ≤ L) : OwnCd w L' v c := by
  obtain ⟨p, q, h1, h2, h3⟩ := h
  exact ⟨p, q, h1, h2.le hl, h3.le hl⟩
theorem OwnCd.spares {w w' : World} {L : Nat} {v : Value} {c : Cd} (h : OwnCd w L v c) (hs : Spares 25 w w') : OwnCd w' L v c := by
  obtain ⟨p, q, h1, h2, h3⟩ := h
  exact ⟨p, q, h1, h2.spares hs (by decide), h3.spares hs (by decide) (by decide) (by decide) (by decide)⟩
theorem spares_row {w : World} {g : Nat} {old cs : Array Value} (h : w.heap[g]? = some (.cells old 25 (0, 0))) : Spares 25 w (w.setRow g cs) :=
  Spares.grown ⟨rfl, rfl, rfl, by simp, fun k _ hne => setRow_other w g k cs (fun e => hne (by rw [e]))⟩ fun k hk => by injection hk with hk; subst hk; exact ⟨old, (0, 0), h⟩
theorem Spares.trans {T : TypeId} {a b c : World} (h1 : Spares T a b) (h2 : Spares T b c) : Spares T a c := ⟨Nat.le_trans h1.1 h2.1, fun g cs e fz hne hg => h2.2 g cs e fz hne (h1.2 g cs e fz hne hg)⟩
def CopyR (L : Nat) (c : Cd) (v : Value) (w : World) : Prop := OwnCd w L v c
theorem CopyR.keepsS (L : Nat) (c : Cd) : KeepsS (CopyR L c) := fun v w w' h hb => OwnCd.below h hb
theorem cdv_eq {c : Cd} {n m : Nat} {k : Int} (h1 : c.shared.length = n) (h2 : c.bodies.length = m) (h3 : c.mutexes = k) (A A' : Option Addr) (a a' : Nat) : cdv c (A, a) (A', a') = .agg #[.slice A n a, .int .i64 k, .slice A' m a'] := by unfold cdv; rw [h1, h2, h3]
def zCode : Array Value := #[.slice none 0 0, .int .i64 0, .slice none 0 0]
set_option maxRecDepth 100000 in
set_option maxHeartbeats 4000000 in
theorem copies_any (c d : Cd) (hc : c.wt ≤ 4000000) (hd : d.wt ≤ 4000000) (p q p2 q2 : Slc) (w : World) (h1 : VlsAt w w.heap.size p c.shared) (h2 : BdsAt w w.heap.size q c.bodies) (h3 : VlsAt w w.heap.size p2 d.shared) (h4 : BdsAt w w.heap.size q2 d.bodies) :
    Calls Try.prog 3 #[cdv c p q, cdv d p2 q2] w fun e w' => e = .returned (.bool true) ∧ Below w.heap.size w w' := by
  have sc := small_of_wt hc; have sd := small_of_wt hd
  have HL1 := Lib.hid (fun W (h : Below w.heap.size w W) => large_any c hc p q w.heap.size W (h1.below h) (h2.below h) h.size)
  have HL2 := Lib.hid (fun W (h : Below w.heap.size w W) => large_any d hd p2 q2 w.heap.size W (h3.below h) (h4.below h) h.size)
  have HC1 := Lib.hid (fun W (h : Below w.heap.size w W) => copy_code c sc p q w.heap.size W (h1.below h) (h2.below h) h.size)
  have HC2 := Lib.hid (fun W (h : Below w.heap.size w W) => copy_code d sd p2 q2 w.heap.size W (h3.below h) (h4.below h) h.size)
  have R1 := Lib.hid h1; have R2 := Lib.hid h2; have R3 := Lib.hid h3; have R4 := Lib.hid h4
  have SC := Lib.hid sc; have SD := Lib.hid sd
  clear h1 h2 h3 h4 sc sd
  unfold cdv at *
  generalize decide (12000 < c.wt) = r1 at *
  generalize decide (12000 < d.wt) = r2 at *
  clear hc hd
  obtain ⟨A, cp⟩ := p; obtain ⟨A', cp'⟩ := q; obtain ⟨A2, cp2⟩ := p2; obtain ⟨A2', cp2'⟩ := q2
  dsimp only at *
  generalize hn1 : c.shared.length = n1 at *
  generalize hm1 : c.bodies.length = m1 at *
  generalize hk1 : c.mutexes = k1 at *
  generalize hn2 : d.shared.length = n2 at *
  generalize hm2 : d.bodies.length = m2 at *
  generalize hk2 : d.mutexes = k2 at *
  have E1 := Lib.hid hn1; have E2 := Lib.hid hm1; have E3 := Lib.hid hk1; have E4 := Lib.hid hn2; have E5 := Lib.hid hm2; have E6 := Lib.hid hk2
  clear hn1 hm1 hk1 hn2 hm2 hk2
  go_enter Try.func3, Try.ntmps3
  go_upto_region 1 with (fail)
  obtain ⟨b0_, b1_, hb_⟩ := boxes2 w (.cells #[.slice A n1 cp, .int .i64 k1, .slice A' m1 cp'] 25) (.cells #[.slice A2 n2 cp2, .int .i64 k2, .slice A2' m2 cp2'] 25)
  generalize (w.alloc (.cells #[.slice A n1 cp, .int .i64 k1, .slice A' m1 cp'] 25)).alloc (.cells #[.slice A2 n2 cp2, .int .i64 k2, .slice A2' m2 cp2'] 25) = w0 at *
  have T0 : Hid (∀ W, Below w0.heap.size w0 W → W.cell? ⟨w.heap.size, 0, none⟩ = some (.slice A n1 cp) ∧ W.cell? ⟨w.heap.size, 1, none⟩ = some (.int .i64 k1) ∧ W.cell? ⟨w.heap.size, 2, none⟩ = some (.slice A' m1 cp')) := Lib.hid (fun W hW => by have e := (hW.block _ (lt_blk b0_)).trans b0_; exact ⟨by rw [cell_blk e]; rfl, by rw [cell_blk e]; rfl, by rw [cell_blk e]; rfl⟩)
  have T1 : Hid (∀ W, Below w0.heap.size w0 W → W.cell? ⟨w.heap.size + 1, 0, none⟩ = some (.slice A2 n2 cp2) ∧ W.cell? ⟨w.heap.size + 1, 1, none⟩ = some (.int .i64 k2) ∧ W.cell? ⟨w.heap.size + 1, 2, none⟩ = some (.slice A2' m2 cp2')) := Lib.hid (fun W hW => by have e := (hW.block _ (lt_blk b1_)).trans b1_; exact ⟨by rw [cell_blk e]; rfl, by rw [cell_blk e]; rfl, by rw [cell_blk e]; rfl⟩)
  have B0 := Lib.hid hb_
  clear hb_ b0_ b1_
  obtain ⟨c0, c1, c2⟩ := T0.out w0 (Below.refl _ _)
  go_wp2_with fail
  refine (HL1.out _ B0.out).mono ?_
  rintro e w1 ⟨rfl, hb1⟩
  clear c0 c1 c2
  have B1 := Lib.hid (B0.out.trans (hb1.mono B0.out.size))
  obtain ⟨d0, d1, d2⟩ := T1.out w1 hb1
  have G1 := Lib.hid hb1
  clear hb1
  cases r1
  rotate_left
  · go_wp2_with fail
    go_ret
    exact ⟨rfl, B1.out⟩
  go_wp2_with fail
  refine (HL2.out _ B1.out).mono ?_
  rintro e w2 ⟨rfl, hb1⟩
  clear d0 d1 d2
  have B2 := Lib.hid (B1.out.trans (hb1.mono B1.out.size))
  have G2 := Lib.hid (G1.out.trans (hb1.mono G1.out.size))
  clear hb1 HL1 HL2
  cases r2
  rotate_left
  · go_wp2_with fail
    go_ret
    exact ⟨rfl, B2.out⟩
  have T0' := Lib.hid (fun W (h : Below w2.heap.size w2 W) => T0.out W (G2.out.trans (h.mono G2.out.size)))
  have T1' := Lib.hid (fun W (h : Below w2.heap.size w2 W) => T1.out W (G2.out.trans (h.mono G2.out.size)))
  have K1 := Lib.hid (fun W (h : Below w2.heap.size w2 W) => (HC1.out W (B2.out.trans (h.mono B2.out.size))).mono fun e w' (hg : GotC W c e w') => (show ∃ v, e = .returned v ∧ Below W.heap.size W w' ∧ ttHolds (.inr (CopyR w2.heap.size c)) v w' from by
    obtain ⟨v, a, b, cc⟩ := hg; exact ⟨v, a, cc, b.le h.size⟩))
  have K2 := Lib.hid (fun W (h : Below w2.heap.size w2 W) => (HC2.out W (B2.out.trans (h.mono B2.out.size))).mono fun e w' (hg : GotC W d e w') => (show ∃ v, e = .returned v ∧ Below W.heap.size W w' ∧ ttHolds (.inr (CopyR w2.heap.size d)) v w' from by
    obtain ⟨v, a, b, cc⟩ := hg; exact ⟨v, a, cc, b.le h.size⟩))
  clear HC1 HC2 T0 T1 B1 G1
  go_upto_region 3 with (fail)
  apply wp_region_relD 6 [(Sum.inl _ : TT), .inr (CopyR w2.heap.size c), (Sum.inl _ : TT), .inr (CopyR w2.heap.size d), .inr (VarR w2.heap.size 25 zCode), .inr (VarR w2.heap.size 25 zCode)] (by kernel_rfl) (by kernel_rfl) rfl
  simp only [List.take_succ_cons, List.take_zero, List.drop_succ_cons, List.drop_zero]
  iterate 1 (apply rel_isS; (intro W hW hf; obtain ⟨u0, u1, u2⟩ := T0'.out W hW; go_simp; first | exact ⟨StayS.refl _ _, rfl⟩ | rfl); simp only [Act.put, List.setIfInBounds_toArray, List.set_cons_succ, List.set_cons_zero])
  refine rel_fitsS (fun W hW hf => rel_callS hW rfl (by go_simp <;> first | rfl | exact ⟨rfl, rfl⟩ | exact ⟨rfl, rfl, rfl⟩) (K1.out W hW)) ((CopyR.keepsS _ _)) fun v1 => ?_
  simp only [Act.put, List.setIfInBounds_toArray, List.set_cons_succ, List.set_cons_zero]
  iterate 1 (apply rel_isS; (intro W hW hf; obtain ⟨u0, u1, u2⟩ := T1'.out W hW; go_simp; first | exact ⟨StayS.refl _ _, rfl⟩ | rfl); simp only [Act.put, List.setIfInBounds_toArray, List.set_cons_succ, List.set_cons_zero])
  refine rel_fitsS (fun W hW hf => rel_callS hW rfl (by go_simp <;> first | rfl | exact ⟨rfl, rfl⟩ | exact ⟨rfl, rfl, rfl⟩) (K2.out W hW)) ((CopyR.keepsS _ _)) fun v2 => ?_
  simp only [Act.put, List.setIfInBounds_toArray, List.set_cons_succ, List.set_cons_zero]
  refine rel_fitsS (fun W hW hf => ?_) (VarR.keepsS _ _ _) fun v3 => ?_
  · go_simp; exact varR_alloc hW (Nat.le_refl _)
  simp only [Act.put, List.setIfInBounds_toArray, List.set_cons_succ, List.set_cons_zero]
  refine rel_fitsS (fun W hW hf => ?_) (VarR.keepsS _ _ _) fun v4 => ?_
  · go_simp; exact varR_alloc hW (Nat.le_refl _)
  simp only [Act.put, List.setIfInBounds_toArray, List.set_cons_succ, List.set_cons_zero]
  refine rel_endD ?_
  intro W hW hf hN
  try simp only [Act.put, List.setIfInBounds_toArray, List.set_cons_succ, List.set_cons_zero]
  have f1 := hf (15, CopyR w2.heap.size c v1) (by simp)
  have f2 := hf (17, CopyR w2.heap.size d v2) (by simp)
  have f3 := hf (5, VarR w2.heap.size 25 zCode v3) (by simp)
  have f4 := hf (6, VarR w2.heap.size 25 zCode v4) (by simp)
  have hne : v3 ≠ v4 := by simpa using hN.ne 4 5 _ _ _ _ _ _ rfl rfl rfl rfl rfl rfl rfl rfl (by decide) (by decide) (by decide)
  obtain ⟨pc, qc, rfl, oc1, oc2⟩ := f1
  obtain ⟨pd, qd, rfl, od1, od2⟩ := f2
  obtain ⟨g5, rfl, hg5, hb5⟩ := f3
  obtain ⟨g6, rfl, hg6, hb6⟩ := f4
  have hne : g5 ≠ g6 := fun e => hne (by rw [e])
  have hne' : g6 ≠ g5 := fun e => hne e.symm
  obtain ⟨Ac, cpc⟩ := pc; obtain ⟨Ac', cpc'⟩ := qc; obtain ⟨Ad, cpd⟩ := pd; obtain ⟨Ad', cpd'⟩ := qd
  have X1 : Hid (W.heap[g5]? = some (.cells zCode 25 (0, 0))) := Lib.hid hb5
  have X2 : Hid ((W.setRow g5 #[.slice Ac n1 cpc, .int .i64 k1, .slice Ac' m1 cpc']).heap[g6]? = some (.cells zCode 25 (0, 0))) := Lib.hid ((setRow_other _ _ _ _ hne').trans hb6)
  have HcV := Lib.hid oc1; have HcB := Lib.hid oc2; have HdV := Lib.hid od1; have HdB := Lib.hid od2
  have HW := Lib.hid hW
  have vc : cdv c (Ac, cpc) (Ac', cpc') = .agg #[.slice Ac n1 cpc, .int .i64 k1, .slice Ac' m1 cpc'] := by unfold cdv; rw [E1.out, E2.out, E3.out]
  have vd : cdv d (Ad, cpd) (Ad', cpd') = .agg #[.slice Ad n2 cpd, .int .i64 k2, .slice Ad' m2 cpd'] := by unfold cdv; rw [E4.out, E5.out, E6.out]
  rw [vc, vd]
  clear hf hN oc1 oc2 od1 od2 hb5 hb6 vc vd hW
  refine wpList_store_row (o := ⟨none, .store 25 (.tmp 5) (.tmp 15), _, _, _, _⟩) rfl _ _ _ rfl g5 #[.slice Ac n1 cpc, .int .i64 k1, .slice Ac' m1 cpc'] rfl rfl _ zCode X1.out (by kernel_rfl) rfl (by kernel_rfl) ?_
  refine wpList_store_row (o := ⟨none, .store 25 (.tmp 6) (.tmp 17), _, _, _, _⟩) rfl _ _ _ rfl g6 #[.slice Ad n2 cpd, .int .i64 k2, .slice Ad' m2 cpd'] rfl rfl _ zCode X2.out (by kernel_rfl) rfl (by kernel_rfl) ?_
  refine wpList_nil ?_
  have Y6 := setRow_heap _ _ _ #[.slice Ad n2 cpd, .int .i64 k2, .slice Ad' m2 cpd'] _ (0, 0) X2.out
  have Y5 := (setRow_other (W.setRow g5 #[.slice Ac n1 cpc, .int .i64 k1, .slice Ac' m1 cpc']) g6 g5 #[.slice Ad n2 cpd, .int .i64 k2, .slice Ad' m2 cpd'] hne).trans (setRow_heap _ _ _ #[.slice Ac n1 cpc, .int .i64 k1, .slice Ac' m1 cpc'] _ (0, 0) X1.out)
  have SP := (spares_row (cs := #[.slice Ac n1 cpc, .int .i64 k1, .slice Ac' m1 cpc']) X1.out).trans (spares_row (cs := #[.slice Ad n2 cpd, .int .i64 k2, .slice Ad' m2 cpd']) X2.out)
  have BB := below_setRow (below_setRow HW.out hg5 #[.slice Ac n1 cpc, .int .i64 k1, .slice Ac' m1 cpc']) hg6 #[.slice Ad n2 cpd, .int .i64 k2, .slice Ad' m2 cpd']
  generalize (W.setRow g5 #[.slice Ac n1 cpc, .int .i64 k1, .slice Ac' m1 cpc']).setRow g6 #[.slice Ad n2 cpd, .int .i64 k2, .slice Ad' m2 cpd'] = w3 at *
  have HcV := Lib.hid (OwV.at (HcV.out.spares SP (by decide))); have HcB := Lib.hid (OwBs.at (HcB.out.spares SP (by decide) (by decide) (by decide) (by decide)))
  have HdV := Lib.hid (OwV.at (HdV.out.spares SP (by decide))); have HdB := Lib.hid (OwBs.at (HdB.out.spares SP (by decide) (by decide) (by decide) (by decide)))
  have B3 := Lib.hid (B2.out.trans (BB.mono B2.out.size))
  have T0'' := Lib.hid (fun W (h : Below w3.heap.size w3 W) => T0'.out W (BB.trans (h.mono BB.size)))
  have T1'' := Lib.hid (fun W (h : Below w3.heap.size w3 W) => T1'.out W (BB.trans (h.mono BB.size)))
  have T5 : Hid (∀ W, Below w3.heap.size w3 W → W.cell? ⟨g5, 0, none⟩ = some (.slice Ac n1 cpc) ∧ W.cell? ⟨g5, 1, none⟩ = some (.int .i64 k1) ∧ W.cell? ⟨g5, 2, none⟩ = some (.slice Ac' m1 cpc')) := Lib.hid (fun W hW => by
    have e := (hW.block _ (lt_blk Y5)).trans Y5
    exact ⟨by rw [cell_blk e]; rfl, by rw [cell_blk e]; rfl, by rw [cell_blk e]; rfl⟩)
  have T6 : Hid (∀ W, Below w3.heap.size w3 W → W.cell? ⟨g6, 0, none⟩ = some (.slice Ad n2 cpd) ∧ W.cell? ⟨g6, 1, none⟩ = some (.int .i64 k2) ∧ W.cell? ⟨g6, 2, none⟩ = some (.slice Ad' m2 cpd')) := Lib.hid (fun W hW => by
    have e := (hW.block _ (lt_blk Y6)).trans Y6
    exact ⟨by rw [cell_blk e]; rfl, by rw [cell_blk e]; rfl, by rw [cell_blk e]; rfl⟩)
  clear X1 X2 Y5 Y6 SP BB HW T0' T1' K1 K2 hne hne' hg5 hg6
  have CC : Hid (∀ W, Below w3.heap.size w3 W → Calls Try.prog 9 #[.agg #[.slice Ac n1 cpc, .int .i64 k1, .slice Ac' m1 cpc']] W (GotC W c)) := Lib.hid (fun W hW => by
    have := code_copy c SC.out (Ac, cpc) (Ac', cpc') w3.heap.size W (HcV.out.below hW) (HcB.out.below hW) hW.size
    rwa [cdv_eq E1.out E2.out E3.out] at this)
  have CS : Hid (∀ W, Below w3.heap.size w3 W → Calls Try.prog 10 #[.agg #[.slice Ac n1 cpc, .int .i64 k1, .slice Ac' m1 cpc'], .agg #[.slice Ad n2 cpd, .int .i64 k2, .slice Ad' m2 cpd']] W fun e w' => e = .returned (.bool (Cd.eq c d)) ∧ Below W.heap.size W w') := Lib.hid (fun W hW => by
    have := code_same c d SC.out SD.out (Ac, cpc) (Ac', cpc') (Ad, cpd) (Ad', cpd') w3.heap.size W (HcV.out.below hW) (HcB.out.below hW) (HdV.out.below hW) (HdB.out.below hW) hW.size
    rwa [cdv_eq E1.out E2.out E3.out, cdv_eq E4.out E5.out E6.out] at this)
  have L3 := B3.out.size
  have KS : Hid (∀ W, Below w3.heap.size w3 W → Calls Try.prog 11 #[.agg #[.slice A n1 cp, .int .i64 k1, .slice A' m1 cp'], .agg #[.slice A2 n2 cp2, .int .i64 k2, .slice A2' m2 cp2']] W fun e w' => e = .returned (.bool (Cd.eq c d)) ∧ Below W.heap.size W w') := Lib.hid (fun W hW => by
    have hW' := B3.out.trans (hW.mono L3)
    have := kit_code c d SC.out SD.out (A, cp) (A', cp') (A2, cp2) (A2', cp2') w.heap.size W (R1.out.below hW') (R2.out.below hW') (R3.out.below hW') (R4.out.below hW') hW'.size
    rwa [cdv_eq E1.out E2.out E3.out, cdv_eq E4.out E5.out E6.out] at this)
  have KA : Hid (∀ W, Below w3.heap.size w3 W → Calls Try.prog 11 #[.agg #[.slice Ac n1 cpc, .int .i64 k1, .slice Ac' m1 cpc'], .agg #[.slice A n1 cp, .int .i64 k1, .slice A' m1 cp']] W fun e w' => e = .returned (.bool true) ∧ Below W.heap.size W w') := Lib.hid (fun W hW => by
    have hW' := B3.out.trans (hW.mono L3)
    have := kit_code c c SC.out SC.out (Ac, cpc) (Ac', cpc') (A, cp) (A', cp') w3.heap.size W (HcV.out.below hW) (HcB.out.below hW) ((R1.out.below hW').more L3) ((R2.out.below hW').more L3) hW.size
    rwa [cdv_eq E1.out E2.out E3.out, cdv_eq E1.out E2.out E3.out, Cd.eq_refl] at this)
  have KB : Hid (∀ W, Below w3.heap.size w3 W → Calls Try.prog 11 #[.agg #[.slice Ad n2 cpd, .int .i64 k2, .slice Ad' m2 cpd'], .agg #[.slice A2 n2 cp2, .int .i64 k2, .slice A2' m2 cp2']] W fun e w' => e = .returned (.bool true) ∧ Below W.heap.size W w') := Lib.hid (fun W hW => by
    have hW' := B3.out.trans (hW.mono L3)
    have := kit_code d d SD.out SD.out (Ad, cpd) (Ad', cpd') (A2, cp2) (A2', cp2') w3.heap.size W (HdV.out.below hW) (HdB.out.below hW) ((R3.out.below hW').more L3) ((R4.out.below hW').more L3) hW.size
    rwa [cdv_eq E4.out E5.out E6.out, cdv_eq E4.out E5.out E6.out, Cd.eq_refl] at this)
  generalize hq : Cd.eq c d = qq at *
  clear hq
  obtain ⟨c0, c1, c2⟩ := T5.out w3 (Below.refl _ _)
  go_wp2_with fail
  refine (CC.out _ (Below.refl _ _)).mono ?_
  rintro e w4 ⟨v, rfl, ⟨pe, qe, rfl, oe1, oe2⟩, hb4⟩
  obtain ⟨Ae, cpe⟩ := pe; obtain ⟨Ae', cpe'⟩ := qe
  have HeV := Lib.hid oe1; have HeB := Lib.hid oe2
  have B4 := Lib.hid hb4
  have ve := cdv_eq (c := c) E1.out E2.out E3.out Ae Ae' cpe cpe'
  rw [ve]
  clear oe1 oe2 hb4 c0 c1 c2 CC ve
  go_upto_region 5 with (fail)
  obtain ⟨b0_, hb_⟩ := boxes1 w4 (.cells #[.slice Ae n1 cpe, .int .i64 k1, .slice Ae' m1 cpe'] 25)
  generalize w4.alloc (.cells #[.slice Ae n1 cpe, .int .i64 k1, .slice Ae' m1 cpe'] 25) = w5 at *
  have T7 : Hid (∀ W, Below w5.heap.size w5 W → W.cell? ⟨w4.heap.size, 0, none⟩ = some (.slice Ae n1 cpe) ∧ W.cell? ⟨w4.heap.size, 1, none⟩ = some (.int .i64 k1) ∧ W.cell? ⟨w4.heap.size, 2, none⟩ = some (.slice Ae' m1 cpe')) := Lib.hid (fun W hW => by have e := (hW.block _ (lt_blk b0_)).trans b0_; exact ⟨by rw [cell_blk e]; rfl, by rw [cell_blk e]; rfl, by rw [cell_blk e]; rfl⟩)
  have B5 := Lib.hid hb_
  clear hb_ b0_
  have HeV := Lib.hid (HeV.out.below B5.out); have HeB := Lib.hid (HeB.out.below B5.out)
  have B45 := Lib.hid (B4.out.trans (B5.out.mono B4.out.size))
  have KE : Hid (∀ W, Below w5.heap.size w5 W → Calls Try.prog 11 #[.agg #[.slice Ae n1 cpe, .int .i64 k1, .slice Ae' m1 cpe'], .agg #[.slice A n1 cp, .int .i64 k1, .slice A' m1 cp']] W fun e w' => e = .returned (.bool true) ∧ Below W.heap.size W w') := Lib.hid (fun W hW => by
    have hW3 := B45.out.trans (hW.mono B45.out.size)
    have hW' := B3.out.trans (hW3.mono L3)
    have L5 := Nat.le_trans L3 B45.out.size
    have := kit_code c c SC.out SC.out (Ae, cpe) (Ae', cpe') (A, cp) (A', cp') w5.heap.size W (HeV.out.at.below hW) (HeB.out.at.below hW) ((R1.out.below hW').more L5) ((R2.out.below hW').more L5) hW.size
    rwa [cdv_eq E1.out E2.out E3.out, cdv_eq E1.out E2.out E3.out, Cd.eq_refl] at this)
  have CE : Hid (∀ W, Below w5.heap.size w5 W → Calls Try.prog 10 #[.agg #[.slice Ae n1 cpe, .int .i64 k1, .slice Ae' m1 cpe'], .agg #[.slice Ac n1 cpc, .int .i64 k1, .slice Ac' m1 cpc']] W fun e w' => e = .returned (.bool true) ∧ Below W.heap.size W w') := Lib.hid (fun W hW => by
    have hW3 := B45.out.trans (hW.mono B45.out.size)
    have L5 := B45.out.size
    have := code_same c c SC.out SC.out (Ae, cpe) (Ae', cpe') (Ac, cpc) (Ac', cpc') w5.heap.size W (HeV.out.at.below hW) (HeB.out.at.below hW) ((HcV.out.below hW3).more L5) ((HcB.out.below hW3).more L5) hW.size
    rwa [cdv_eq E1.out E2.out E3.out, cdv_eq E1.out E2.out E3.out, Cd.eq_refl] at this)
  have CS5 := Lib.hid (fun W (h : Below w5.heap.size w5 W) => CS.out W (B45.out.trans (h.mono B45.out.size)))
  have KS5 := Lib.hid (fun W (h : Below w5.heap.size w5 W) => KS.out W (B45.out.trans (h.mono B45.out.size)))
  have T05 := Lib.hid (fun W (h : Below w5.heap.size w5 W) => T0''.out W (B45.out.trans (h.mono B45.out.size)))
  have T15 := Lib.hid (fun W (h : Below w5.heap.size w5 W) => T1''.out W (B45.out.trans (h.mono B45.out.size)))
  have T55 := Lib.hid (fun W (h : Below w5.heap.size w5 W) => T5.out W (B45.out.trans (h.mono B45.out.size)))
  have T65 := Lib.hid (fun W (h : Below w5.heap.size w5 W) => T6.out W (B45.out.trans (h.mono B45.out.size)))
  clear CS KS
  cases qq
  all_goals
    apply wp_region_relH (H := []) 19 [(Sum.inl _ : TT), (Sum.inl _ : TT), (Sum.inl _ : TT), (Sum.inl _ : TT), (Sum.inl _ : TT), (Sum.inl _ : TT), (Sum.inl _ : TT), (Sum.inl _ : TT), (Sum.inl _ : TT), (Sum.inl _ : TT), (Sum.inl _ : TT), (Sum.inl _ : TT), (Sum.inl _ : TT), (Sum.inl _ : TT), (Sum.inl _ : TT), (Sum.inl _ : TT), (Sum.inl _ : TT), (Sum.inl _ : TT), (Sum.inl _ : TT)] (by kernel_rfl) (by kernel_rfl) (fun _ _ _ _ _ h => h) rfl
    simp only [List.take_succ_cons, List.take_zero, List.drop_succ_cons, List.drop_zero]
    iterate 2 (apply rel_isS; (intro W hW hf; obtain ⟨u0, u1, u2⟩ := T55.out W hW; obtain ⟨v0, v1, v2⟩ := T65.out W hW; go_simp; first | exact ⟨StayS.refl _ _, rfl⟩ | rfl); simp only [Act.put, List.setIfInBounds_toArray, List.set_cons_succ, List.set_cons_zero])
    apply rel_isS
    · intro W hW hf
      exact rel_callS hW rfl (by go_simp <;> first | rfl | exact ⟨rfl, rfl⟩ | exact ⟨rfl, rfl, rfl⟩) ((CS5.out W hW).mono fun e w' ⟨a, b⟩ => ⟨_, a, b, rfl⟩)
    simp only [Act.put, List.setIfInBounds_toArray, List.set_cons_succ, List.set_cons_zero]
    iterate 2 (apply rel_isS; (intro W hW hf; obtain ⟨u0, u1, u2⟩ := T05.out W hW; obtain ⟨v0, v1, v2⟩ := T15.out W hW; go_simp; first | exact ⟨StayS.refl _ _, rfl⟩ | rfl); simp only [Act.put, List.setIfInBounds_toArray, List.set_cons_succ, List.set_cons_zero])
    apply rel_isS
    · intro W hW hf
      exact rel_callS hW rfl (by go_simp <;> first | rfl | exact ⟨rfl, rfl⟩ | exact ⟨rfl, rfl, rfl⟩) ((KS5.out W hW).mono fun e w' ⟨a, b⟩ => ⟨_, a, b, rfl⟩)
    simp only [Act.put, List.setIfInBounds_toArray, List.set_cons_succ, List.set_cons_zero]
    iterate 2 (apply rel_isS; (intro W hW hf; go_simp; first | exact ⟨StayS.refl _ _, rfl⟩ | rfl); simp only [Act.put, List.setIfInBounds_toArray, List.set_cons_succ, List.set_cons_zero])
    iterate 2 (apply rel_isS; (intro W hW hf; obtain ⟨u0, u1, u2⟩ := T7.out W hW; obtain ⟨v0, v1, v2⟩ := T05.out W hW; go_simp; first | exact ⟨StayS.refl _ _, rfl⟩ | rfl); simp only [Act.put, List.setIfInBounds_toArray, List.set_cons_succ, List.set_cons_zero])
    apply rel_isS
    · intro W hW hf
      exact rel_callS hW (by first | rfl | (go_simp; done) | (go_simp; simp)) (by go_simp <;> first | rfl | exact ⟨rfl, rfl⟩ | exact ⟨rfl, rfl, rfl⟩) ((KE.out W hW).mono fun e w' ⟨a, b⟩ => ⟨_, a, b, rfl⟩)
    simp only [Act.put, List.setIfInBounds_toArray, List.set_cons_succ, List.set_cons_zero]
    iterate 3 (apply rel_isS; (intro W hW hf; go_simp; first | exact ⟨StayS.refl _ _, rfl⟩ | rfl); simp only [Act.put, List.setIfInBounds_toArray, List.set_cons_succ, List.set_cons_zero])
    iterate 2 (apply rel_isS; (intro W hW hf; obtain ⟨u0, u1, u2⟩ := T7.out W hW; obtain ⟨v0, v1, v2⟩ := T55.out W hW; go_simp; first | exact ⟨StayS.refl _ _, rfl⟩ | rfl); simp only [Act.put, List.setIfInBounds_toArray, List.set_cons_succ, List.set_cons_zero])
    apply rel_isS
    · intro W hW hf
      exact rel_callS hW (by first | rfl | (go_simp; done) | (go_simp; simp)) (by go_simp <;> first | rfl | exact ⟨rfl, rfl⟩ | exact ⟨rfl, rfl, rfl⟩) ((CE.out W hW).mono fun e w' ⟨a, b⟩ => ⟨_, a, b, rfl⟩)
    simp only [Act.put, List.setIfInBounds_toArray, List.set_cons_succ, List.set_cons_zero]
    iterate 2 (apply rel_isS; (intro W hW hf; go_simp; first | exact ⟨StayS.refl _ _, rfl⟩ | rfl); simp only [Act.put, List.setIfInBounds_toArray, List.set_cons_succ, List.set_cons_zero])
    refine rel_endS ?_
    intro W hW hf
    try simp only [Act.put, List.setIfInBounds_toArray, List.set_cons_succ, List.set_cons_zero]
    refine wpList_nil ?_
    have H6 := Lib.hid hW
    obtain ⟨u0, u1, u2⟩ := T7.out W hW
    have O1 := Lib.hid (HeV.out.below hW).sh; have O2 := Lib.hid ((HeB.out.below hW).sh SC.out.2.2)
    rw [E1.out] at O1; rw [E2.out] at O2
    have s1 : n1 ≤ 4000000 := by have := SC.out.1; rwa [E1.out] at this
    have s2 : m1 ≤ 4000000 := by have := SC.out.2.1; rwa [E2.out] at this
    have l5 : w3.heap.size ≤ W.heap.size := Nat.le_trans B45.out.size hW.size
    have B6 := Lib.hid (B45.out.trans (hW.mono B45.out.size))
    clear hW hf
    go_wp2_with fail
    refine (over_code (Ae, cpe) (Ae', cpe') n1 m1 k1 s1 s2 w3.heap.size W O1.out O2.out l5).mono ?_
    rintro e w7 ⟨rfl, hk⟩
    have B7 := Lib.hid (B6.out.trans hk.below)
    clear hk u0 u1 u2 s1 s2 l5
    obtain ⟨u0, u1, u2⟩ := T5.out w7 B7.out
    obtain ⟨v0, v1, v2⟩ := T0''.out w7 B7.out
    go_wp2_with fail
    refine (KA.out _ B7.out).mono ?_
    rintro e w8 ⟨rfl, hb8⟩
    have B8 := Lib.hid (B7.out.trans (hb8.mono B7.out.size))
    clear hb8 u0 u1 u2 v0 v1 v2
    obtain ⟨u0, u1, u2⟩ := T6.out w8 B8.out
    obtain ⟨v0, v1, v2⟩ := T1''.out w8 B8.out
    go_wp2_with fail
    refine (KB.out _ B8.out).mono ?_
    rintro e w9 ⟨rfl, hb9⟩
    have B9 := Lib.hid (B8.out.trans (hb9.mono B8.out.size))
    clear hb9 u0 u1 u2 v0 v1 v2
    go_wp2_with fail
    refine (awake_any _).mono ?_
    rintro e w10 ⟨rfl, hb10⟩
    have B10 := Lib.hid (B3.out.trans ((B9.out.trans (hb10.mono B9.out.size)).mono L3))
    clear hb10
    go_wp2_with fail
    go_ret
    exact ⟨rfl, B10.out⟩
theorem codecopies_walk (c : Cd) (p q : Slc) (d : Cd) (p2 q2 : Slc) (w : World) (hc : c.wt ≤ 4000000) (h1 : VlsAt w w.heap.size p c.shared) (h2 : BdsAt w w.heap.size q c.bodies) (hd : d.wt ≤ 4000000) (h3 : VlsAt w w.heap.size p2 d.shared) (h4 : BdsAt w w.heap.size q2 d.bodies) :
    Calls Try.prog 3 #[cdv c p q, cdv d p2 q2] w fun e w' => e = .returned (.bool true) ∧ Below w.heap.size w w' := copies_any c d hc hd p q p2 q2 w h1 h2 h3 h4
end Go.Proofs.Ytbmpjphemjponaa
