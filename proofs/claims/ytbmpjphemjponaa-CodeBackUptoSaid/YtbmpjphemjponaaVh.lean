/- assizekit.CopyCode. -/
import Derived.Test.YtbmpjphemjponaaVg
import Derived.Test.YtbmpjphemjponaaNw
import Derived.BigRegion
set_option linter.unusedSimpArgs false
set_option linter.unusedVariables false
namespace Go.Proofs.Ytbmpjphemjponaa
open Go.RowKit

/-- a struct's value with an own row of values. -/
def HasV (B : Nat) (vs : List Vl) (n : Nat) (x : Int) (v : Value) (w : World) : Prop := ∃ p : Slc, v = .agg #[.slice p.1 n p.2, .int .i64 x, .slice none 0 0] ∧ OwV w B p vs
theorem HasV.keepsS (B : Nat) (vs : List Vl) (n : Nat) (x : Int) : KeepsS (HasV B vs n x) := fun v w w' ⟨p, h1, h2⟩ hb => ⟨p, h1, h2.below hb⟩
def OwnCd (w : World) (L : Nat) (v : Value) (c : Cd) : Prop := ∃ p q : Slc, v = cdv c p q ∧ OwV w L p c.shared ∧ OwBs w L q c.bodies
def GotC (w : World) (c : Cd) (e : Ending) (w' : World) : Prop := ∃ v, e = .returned v ∧ OwnCd w' w.heap.size v c ∧ Below w.heap.size w w'
/-- a struct of three cells, written anew. -/
theorem set3 {w : World} {g : Nat} {T : TypeId} {a b c : Value} (h : w.heap[g]? = some (.cells #[a, b, c] T (0, 0))) (x y z : Value) : (((w.setCell ⟨g, 0, none⟩ x).setCell ⟨g, 1, none⟩ y).setCell ⟨g, 2, none⟩ z).heap[g]? = some (.cells #[x, y, z] T (0, 0)) ∧ w.grownBy (((w.setCell ⟨g, 0, none⟩ x).setCell ⟨g, 1, none⟩ y).setCell ⟨g, 2, none⟩ z) (some g) :=
  ⟨(set_blk (set_blk (set_blk h 0 x) 1 y) 2 z).trans rfl, grown_setCell (grown_setCell (grown_setCell (World.grownBy.refl w (some g)) (p := ⟨g, 0, none⟩) rfl x) (p := ⟨g, 1, none⟩) rfl y) (p := ⟨g, 2, none⟩) rfl z⟩
theorem set1 {w : World} {g : Nat} {T : TypeId} {cs : Array Value} (h : w.heap[g]? = some (.cells cs T (0, 0))) (i : Nat) (x : Value) : (w.setCell ⟨g, i, none⟩ x).heap[g]? = some (.cells (cs.setIfInBounds i x) T (0, 0)) ∧ w.grownBy (w.setCell ⟨g, i, none⟩ x) (some g) :=
  ⟨set_blk h i x, grown_setCell (World.grownBy.refl w (some g)) (p := ⟨g, i, none⟩) rfl x⟩
theorem Spares.own_blk {T : TypeId} {w w' : World} {g : Nat} {cs : Array Value} (h : w.grownBy w' (some g)) (hg : w.heap[g]? = some (.cells cs T (0, 0))) : Spares T w w' := Spares.grown h fun k hk => by injection hk with hk; subst hk; exact ⟨cs, (0, 0), hg⟩
/-- a code that is being filled. -/
def OutC (w : World) (L g : Nat) (q : Slc) (sh : List Vl) (mt : Int) (l : List Bd) : Prop := OwV w L q sh ∧ ∃ r : Slc, w.heap[g]? = some (.cells #[sv q sh.length, .int .i64 mt, sv r l.length] 25 (0, 0)) ∧ OwBs w L r l
/-- a body that is being filled. -/
def OutB (w : World) (L g : Nat) (q : Slc) (sh : List Vl) (mt : Int) (l : List Nd) : Prop := OwV w L q sh ∧ ∃ r : Slc, w.heap[g]? = some (.cells #[sv q sh.length, .int .i64 mt, sv r l.length] 57 (0, 0)) ∧ OwNs w L r l
theorem OutC.below {w w' : World} {L g : Nat} {q : Slc} {sh : List Vl} {mt : Int} {l : List Bd} (h : OutC w L g q sh mt l) (hb : Below w.heap.size w w') : OutC w' L g q sh mt l := by
  obtain ⟨h1, r, h2, h3⟩ := h
  exact ⟨h1.below hb, r, (hb.block g (lt_blk h2)).trans h2, h3.below hb⟩
theorem OutB.below {w w' : World} {L g : Nat} {q : Slc} {sh : List Vl} {mt : Int} {l : List Nd} (h : OutB w L g q sh mt l) (hb : Below w.heap.size w w') : OutB w' L g q sh mt l := by
  obtain ⟨h1, r, h2, h3⟩ := h
  exact ⟨h1.below hb, r, (hb.block g (lt_blk h2)).trans h2, h3.below hb⟩
theorem OwBs.nil (w : World) (L : Nat) : OwBs w L (none, 0) [] := ⟨[], rfl, ⟨rfl, .inl ⟨rfl, rfl⟩⟩, by simp⟩
theorem OwNs.nil (w : World) (L : Nat) : OwNs w L (none, 0) [] := ⟨[], rfl, ⟨rfl, .inl ⟨rfl, rfl⟩⟩, by simp⟩
set_option maxRecDepth 100000 in
set_option maxHeartbeats 4000000 in
theorem copy_code (c : Cd) (s : CdSmall c) (p p2 : Slc) (B : Nat) (w : World) (h1 : VlsAt w B p c.shared) (h2 : BdsAt w B p2 c.bodies) (hB : B ≤ w.heap.size) :
    Calls Try.prog 8 #[cdv c p p2] w (GotC w c) := by
  have H1 := Lib.hid h1; have H2 := Lib.hid h2
  have W1 := Lib.hid s.2.2
  have L1 := s.1; have L2 := s.2.1
  clear h1 h2 s
  unfold cdv
  have HN : Hid (∀ e w', GotC w c e w' = GotC w c e w') := Lib.hid (fun _ _ => rfl)
  obtain ⟨sh, mt, bs⟩ := c
  obtain ⟨A, cp⟩ := p
  obtain ⟨A', cp'⟩ := p2
  dsimp only at *
  generalize hn1 : sh.length = n1 at *
  generalize hn2 : bs.length = n2 at *
  have N1 := Lib.hid hn1.symm; have N2 := Lib.hid hn2.symm
  clear hn1 hn2
  go_enter Try.func8, Try.ntmps8
  go_upto_region 1 with (fail)
  have hb : Below w.heap.size w ((w.alloc (.cells #[.slice A n1 cp, .int .i64 mt, .slice A' n2 cp'] 25)).alloc (.cells #[.slice none 0 0, .int .i64 0, .slice none 0 0] 25)) := ((Below.refl _ _).alloc (Nat.le_refl _) _).alloc (by simp) _
  have b1 : ((w.alloc (.cells #[.slice A n1 cp, .int .i64 mt, .slice A' n2 cp'] 25)).alloc (.cells #[.slice none 0 0, .int .i64 0, .slice none 0 0] 25)).heap[w.heap.size + 1]? = some (.cells #[.slice none 0 0, .int .i64 0, .slice none 0 0] 25 (0, 0)) := by
    have := heap_alloc_new (w.alloc (.cells #[.slice A n1 cp, .int .i64 mt, .slice A' n2 cp'] 25)) (.cells #[.slice none 0 0, .int .i64 0, .slice none 0 0] 25)
    rwa [World.size_alloc] at this
  have b0 : ((w.alloc (.cells #[.slice A n1 cp, .int .i64 mt, .slice A' n2 cp'] 25)).alloc (.cells #[.slice none 0 0, .int .i64 0, .slice none 0 0] 25)).heap[w.heap.size]? = some (.cells #[.slice A n1 cp, .int .i64 mt, .slice A' n2 cp'] 25 (0, 0)) := (Below.heap_alloc (w.alloc (.cells #[.slice A n1 cp, .int .i64 mt, .slice A' n2 cp'] 25)) _ w.heap.size (by simp)).trans (heap_alloc_new w _)
  generalize (w.alloc (.cells #[.slice A n1 cp, .int .i64 mt, .slice A' n2 cp'] 25)).alloc (.cells #[.slice none 0 0, .int .i64 0, .slice none 0 0] 25) = w1 at *
  have HB := Lib.hid hb
  have B0 := Lib.hid b0; have B1 := Lib.hid b1
  have HC : Hid (∀ W, Below w1.heap.size w1 W → W.cell? ⟨w.heap.size, 0, none⟩ = some (.slice A n1 cp) ∧ W.cell? ⟨w.heap.size, 1, none⟩ = some (.int .i64 mt) ∧ W.cell? ⟨w.heap.size, 2, none⟩ = some (.slice A' n2 cp')) := Lib.hid (fun W hW => by
    have e := (hW.block _ (lt_blk b0)).trans b0
    exact ⟨by rw [cell_blk e]; rfl, by rw [cell_blk e]; rfl, by rw [cell_blk e]; rfl⟩)
  clear hb b0 b1
  have HR : Hid (∀ W, Below w1.heap.size w1 W → Rd W B A (sh.flatMap vc)) := Lib.hid (fun W hW => row_rd vc_len (by omega) (H1.out.below ((HB.out.trans (hW.mono HB.out.size)).mono hB)).1)
  have HA0 : Hid (A = none → n1 = 0) := Lib.hid (by rw [N1.out]; exact H1.out.2.1)
  have HLn : Hid ((sh.flatMap vc).length = n1 * 2) := Lib.hid (by rw [flat_length vc_len, N1.out])
  apply wp_region_relH (H := []) 8 [.inr (NewR w1.heap.size 51 #[] 0), (Sum.inl _ : TT), (Sum.inl _ : TT), .inr (OwnRS w1.heap.size 51 2 n1 (sh.flatMap vc)), (Sum.inl _ : TT), (Sum.inl _ : TT), .inr (HasV w1.heap.size sh n1 mt), .inr (NewP w1.heap.size 25 #[.slice none 0 0, .int .i64 0, .slice none 0 0])] (by kernel_rfl) (by kernel_rfl) (fun _ _ _ _ _ h => h) rfl
  simp only [List.take_succ_cons, List.take_zero, List.drop_succ_cons, List.drop_zero]
  refine rel_fitsS (fun W hW hf => ?_) (NewR.keepsS _ _ _ _) fun v1 => ?_
  · go_simp
    exact newR_alloc hW (Nat.le_refl _)
  simp only [Act.put, List.setIfInBounds_toArray, List.set_cons_succ, List.set_cons_zero]
  iterate 2 (apply rel_isS; (intro W hW hf; obtain ⟨u0, u1, u2⟩ := HC.out W hW; go_simp; first | exact ⟨StayS.refl _ _, rfl⟩ | rfl); simp only [Act.put, List.setIfInBounds_toArray, List.set_cons_succ, List.set_cons_zero])
  refine rel_fitsS (fun W hW hf => ?_) (OwnRS.keepsS _ _ _ _ _) fun v2 => ?_
  · have h := hf (8, NewR w1.heap.size 51 #[] 0 v1) (by simp) (by simp [Oper.looksAt, Op.operands, Call.operands])
    exact relOp_append_emptyS ESV hW rfl (.tmp 8) (.tmp 10) rfl v1 h rfl B A (sh.flatMap vc) n1 cp rfl HLn.out (HR.out W hW) HA0.out (flat_one vc_one sh) (by omega) (by omega)
  simp only [Act.put, List.setIfInBounds_toArray, List.set_cons_succ, List.set_cons_zero]
  iterate 2 (apply rel_isS; (intro W hW hf; obtain ⟨u0, u1, u2⟩ := HC.out W hW; go_simp; first | exact ⟨StayS.refl _ _, rfl⟩ | rfl); simp only [Act.put, List.setIfInBounds_toArray, List.set_cons_succ, List.set_cons_zero])
  refine rel_fitsS (fun W hW hf => ?_) (HasV.keepsS _ _ _ _) fun v3 => ?_
  · have h := hf (11, OwnRS w1.heap.size 51 2 n1 (sh.flatMap vc) v2) (by simp) (by simp [Oper.looksAt, Op.operands, Call.operands])
    obtain ⟨p, rfl, h6⟩ := own_sv h
    unfold sv
    go_simp
    exact ⟨StayS.refl _ _, p, rfl, by unfold OwV; rw [← N1.out]; exact h6⟩
  simp only [Act.put, List.setIfInBounds_toArray, List.set_cons_succ, List.set_cons_zero]
  refine rel_fitsS (fun W hW hf => ?_) (NewP.keepsS _ _ _) fun v4 => ?_
  · go_simp
    exact newP_alloc hW (Nat.le_refl _)
  refine rel_endS ?_
  intro W hW hf
  try simp only [Act.put, List.setIfInBounds_toArray, List.set_cons_succ, List.set_cons_zero]
  have h1 := hf (14, HasV w1.heap.size sh n1 mt v3) (by simp)
  have h2 := hf (3, NewP w1.heap.size 25 #[.slice none 0 0, .int .i64 0, .slice none 0 0] v4) (by simp)
  obtain ⟨q, rfl, h1⟩ := h1
  obtain ⟨g3, rfl, hg3, hx3⟩ := h2
  have H1 := Lib.hid h1; have Hx3 := Lib.hid hx3; have HbW := Lib.hid hW
  clear h1 hf hx3 hW
  have c0 : W.cell? ⟨g3, 0, none⟩ = some (.slice none 0 0) := by rw [cell_blk Hx3.out]; rfl
  have c1 : W.cell? ⟨g3, 1, none⟩ = some (.int .i64 0) := by rw [cell_blk Hx3.out]; rfl
  have c2 : W.cell? ⟨g3, 2, none⟩ = some (.slice none 0 0) := by rw [cell_blk Hx3.out]; rfl
  have fz : ∀ j, W.frozen? ⟨g3, j, none⟩ = false := fun j => free_blk Hx3.out j
  go_upto_region 2 with (fail)
  obtain ⟨d1, d2⟩ := set3 Hx3.out (.slice q.1 n1 q.2) (.int .i64 mt) (.slice none 0 0)
  clear c0 c1 c2 fz
  generalize ((W.setCell ⟨g3, 0, none⟩ (.slice q.1 n1 q.2)).setCell ⟨g3, 1, none⟩ (.int .i64 mt)).setCell ⟨g3, 2, none⟩ (.slice none 0 0) = w2 at *
  have HG := Lib.hid hg3
  have Hw2 := Lib.hid (HbW.out.grown d2 HbW.out.size (fun k hk => by injection hk with hk; omega))
  have HO : Hid (OutC w2 w1.heap.size g3 q sh mt []) := Lib.hid ⟨H1.out.spares (Spares.own_blk d2 Hx3.out) (by decide), (none, 0), by rw [d1, ← N1.out]; rfl, OwBs.nil _ _⟩
  clear d1 d2 H1 Hx3 HbW HR HLn
  go_wp2_with fail
  go_loopw [4] (fun iv wr => ∃ k : Nat, k ≤ n2 ∧ iv = .int .i64 k ∧ Below w1.heap.size w1 wr ∧ OutC wr w1.heap.size g3 q sh mt (bs.take k)) (fun iv _ => n2 - (intOf iv).toNat)
  case atStart => exact ⟨0, by omega, rfl, Hw2.out, by simpa using HO.out⟩
  case round =>
    obtain ⟨wo, rfl⟩ : ∃ x, x = wr := ⟨wr, rfl⟩
    obtain ⟨k, hk, rfl, hb, ho⟩ := hrel
    have Hb := Lib.hid hb
    have Ho := Lib.hid ho
    clear hb ho Hw2 HO
    obtain ⟨c0, c1, c2⟩ := HC.out wo Hb.out
    by_cases hlt : k < n2
    · obtain ⟨b, o, ⟨P0, pc0⟩, ⟨P1, pc1⟩, hA', hb1, x0, x1, x2, g0, g1⟩ := BdsAt.cells H2.out (show k < bs.length by rw [← N2.out]; exact hlt)
      dsimp only at hA' x0 x2
      subst hA'
      have T : Hid (∀ W, Below wo.heap.size wo W → W.cell? ⟨w.heap.size, 2, none⟩ = some (.slice (some ⟨b, o, none⟩) n2 cp') ∧ W.cell? ⟨b, o + k * 3, none⟩ = some (.slice P0 (bs.getD k default).locals.length pc0) ∧ W.cell? ⟨b, o + k * 3 + 1, none⟩ = some (.int .i64 (bs.getD k default).stack) ∧ W.cell? ⟨b, o + k * 3 + 2, none⟩ = some (.slice P1 (bs.getD k default).nodes.length pc1)) := Lib.hid (fun W hW => by
        have hW1 := Hb.out.trans (hW.mono Hb.out.size)
        have hW := HB.out.trans (hW1.mono HB.out.size)
        exact ⟨(HC.out W hW1).2.2, (hW.cell (p := ⟨b, _, none⟩) (Nat.lt_of_lt_of_le hb1 hB)).trans x0, (hW.cell (p := ⟨b, _, none⟩) (Nat.lt_of_lt_of_le hb1 hB)).trans x1, (hW.cell (p := ⟨b, _, none⟩) (Nat.lt_of_lt_of_le hb1 hB)).trans x2⟩)
      have HbB := Lib.hid (HB.out.trans (Hb.out.mono HB.out.size))
      have HR : Hid (∀ W, Below wo.heap.size wo W → Rd W B P0 ((bs.getD k default).locals.flatMap vc)) := Lib.hid (fun W hW => row_rd vc_len (by omega) (g0.below ((HbB.out.trans (hW.mono HbB.out.size)).mono hB)).1)
      have HA0 : Hid (P0 = none → (bs.getD k default).locals.length = 0) := Lib.hid g0.2.1
      have HLn := Lib.hid (flat_length vc_len (bs.getD k default).locals)
      have HI : Hid (∀ W, Below wo.heap.size wo W → NdsAt W B (P1, pc1) (bs.getD k default).nodes) := Lib.hid (fun W hW => g1.below ((HbB.out.trans (hW.mono HbB.out.size)).mono hB))
      have R1 := Lib.hid (W1.out k hlt)
      have HTk : Hid (bs.take (k + 1) = bs.take k ++ [bs.getD k default]) := Lib.hid (by
        rw [List.take_succ_eq_append_getElem (by rw [← N2.out]; exact hlt)]
        simp [List.getD_eq_getElem?_getD, List.getElem?_eq_getElem (show k < bs.length by rw [← N2.out]; exact hlt)])
      clear x0 x1 x2 g0 g1
      generalize bs.getD k default = a at *
      obtain ⟨al, ks, an⟩ := a
      dsimp only at *
      have L3 : al.length ≤ 4000000 := R1.out.1
      have L4 : an.length ≤ 4000000 := R1.out.2.1
      generalize hl1 : al.length = l1 at *
      generalize hl3 : an.length = l3 at *
      have M1 := Lib.hid hl1; have M3 := Lib.hid hl3
      clear hl1 hl3
      go_upto_region 5 with (fail)
      clear c0 c1 c2
      apply wp_region_relH (H := []) 16 [.inr (NewR wo.heap.size 51 #[] 0), (Sum.inl _ : TT), (Sum.inl _ : TT), (Sum.inl _ : TT), (Sum.inl _ : TT), (Sum.inl _ : TT), (Sum.inl _ : TT), .inr (OwnRS wo.heap.size 51 2 l1 (al.flatMap vc)), (Sum.inl _ : TT), (Sum.inl _ : TT), (Sum.inl _ : TT), (Sum.inl _ : TT), (Sum.inl _ : TT), (Sum.inl _ : TT), .inr (HasV wo.heap.size al l1 ks), .inr (NewP wo.heap.size 57 #[.slice none 0 0, .int .i64 0, .slice none 0 0])] (by kernel_rfl) (by kernel_rfl) (fun _ _ _ _ _ h => h) rfl
      simp only [List.take_succ_cons, List.take_zero, List.drop_succ_cons, List.drop_zero]
      refine rel_fitsS (fun W hW hf => ?_) (NewR.keepsS _ _ _ _) fun v1 => ?_
      · go_simp
        exact newR_alloc hW (Nat.le_refl _)
      simp only [Act.put, List.setIfInBounds_toArray, List.set_cons_succ, List.set_cons_zero]
      iterate 6 (apply rel_isS; (intro W hW hf; obtain ⟨u0, u1, u2, u3⟩ := T.out W hW; go_simp; first | exact ⟨StayS.refl _ _, rfl⟩ | rfl); simp only [Act.put, List.setIfInBounds_toArray, List.set_cons_succ, List.set_cons_zero])
      refine rel_fitsS (fun W hW hf => ?_) (OwnRS.keepsS _ _ _ _ _) fun v2 => ?_
      · have h := hf (22, NewR wo.heap.size 51 #[] 0 v1) (by simp) (by simp [Oper.looksAt, Op.operands, Call.operands])
        exact relOp_append_emptyS ESV hW rfl (.tmp 22) (.tmp 28) rfl v1 h rfl B P0 (al.flatMap vc) l1 pc0 rfl HLn.out (HR.out W hW) HA0.out (flat_one vc_one al) (by omega) (by omega)
      simp only [Act.put, List.setIfInBounds_toArray, List.set_cons_succ, List.set_cons_zero]
      iterate 6 (apply rel_isS; (intro W hW hf; obtain ⟨u0, u1, u2, u3⟩ := T.out W hW; go_simp; first | exact ⟨StayS.refl _ _, rfl⟩ | rfl); simp only [Act.put, List.setIfInBounds_toArray, List.set_cons_succ, List.set_cons_zero])
      refine rel_fitsS (fun W hW hf => ?_) (HasV.keepsS _ _ _ _) fun v3 => ?_
      · have h := hf (29, OwnRS wo.heap.size 51 2 l1 (al.flatMap vc) v2) (by simp) (by simp [Oper.looksAt, Op.operands, Call.operands])
        obtain ⟨p, rfl, h6⟩ := own_sv h
        unfold sv
        go_simp
        exact ⟨StayS.refl _ _, p, rfl, by unfold OwV; rw [M1.out]; exact h6⟩
      simp only [Act.put, List.setIfInBounds_toArray, List.set_cons_succ, List.set_cons_zero]
      refine rel_fitsS (fun W hW hf => ?_) (NewP.keepsS _ _ _) fun v4 => ?_
      · go_simp
        exact newP_alloc hW (Nat.le_refl _)
      refine rel_endS ?_
      intro W hW hf
      try simp only [Act.put, List.setIfInBounds_toArray, List.set_cons_succ, List.set_cons_zero]
      have h1 := hf (36, HasV wo.heap.size al l1 ks v3) (by simp)
      have h2 := hf (5, NewP wo.heap.size 57 #[.slice none 0 0, .int .i64 0, .slice none 0 0] v4) (by simp)
      obtain ⟨q5, rfl, h1⟩ := h1
      obtain ⟨g5, rfl, hg5, hx5⟩ := h2
      have H1 := Lib.hid h1; have Hx5 := Lib.hid hx5; have HbW := Lib.hid hW
      clear h1 hf hx5 hW
      have c0 : W.cell? ⟨g5, 0, none⟩ = some (.slice none 0 0) := by rw [cell_blk Hx5.out]; rfl
      have c1 : W.cell? ⟨g5, 1, none⟩ = some (.int .i64 0) := by rw [cell_blk Hx5.out]; rfl
      have c2 : W.cell? ⟨g5, 2, none⟩ = some (.slice none 0 0) := by rw [cell_blk Hx5.out]; rfl
      have fz : ∀ j, W.frozen? ⟨g5, j, none⟩ = false := fun j => free_blk Hx5.out j
      go_upto_region 6 with (fail)
      obtain ⟨d1, d2⟩ := set3 Hx5.out (.slice q5.1 l1 q5.2) (.int .i64 ks) (.slice none 0 0)
      clear c0 c1 c2 fz
      generalize ((W.setCell ⟨g5, 0, none⟩ (.slice q5.1 l1 q5.2)).setCell ⟨g5, 1, none⟩ (.int .i64 ks)).setCell ⟨g5, 2, none⟩ (.slice none 0 0) = w3 at *
      have HG5 := Lib.hid hg5
      have Hw3 := Lib.hid (HbW.out.grown d2 HbW.out.size (fun k hk => by injection hk with hk; omega))
      have HO5 : Hid (OutB w3 wo.heap.size g5 q5 al ks []) := Lib.hid ⟨H1.out.spares (Spares.own_blk d2 Hx5.out) (by decide), (none, 0), by rw [d1, M1.out]; rfl, OwNs.nil _ _⟩
      clear d1 d2 H1 Hx5 HbW HR HLn
      go_wp2_with fail
      go_loopw [6] (fun iv wi => ∃ j : Nat, j ≤ l3 ∧ iv = .int .i64 j ∧ Below wo.heap.size wo wi ∧ OutB wi wo.heap.size g5 q5 al ks (an.take j)) (fun iv _ => l3 - (intOf iv).toNat)
      case atStart => exact ⟨0, by omega, rfl, Hw3.out, by simpa using HO5.out⟩
      case round =>
        obtain ⟨j, hj, rfl, hbi, hoi⟩ := hrel
        have Hbi := Lib.hid hbi
        have Hoi := Lib.hid hoi
        clear hbi hoi Hw3 HO5
        obtain ⟨c2, _, _, c3⟩ := T.out wr Hbi.out
        by_cases hlt2 : j < l3
        · have HcB := Lib.hid (HbB.out.trans (Hbi.out.mono HbB.out.size))
          obtain ⟨b3, o3, ⟨e0, e1⟩, hP, hb3, x3, x4, x5, x6, x7, g0⟩ := NdsAt.cells (HI.out wr Hbi.out) (show j < an.length by rw [M3.out]; exact hlt2)
          dsimp only at hP x3
          subst hP
          have HTn : Hid (an.take (j + 1) = an.take j ++ [an.getD j default]) := Lib.hid (by
            rw [List.take_succ_eq_append_getElem (by rw [M3.out]; exact hlt2)]
            simp [List.getD_eq_getElem?_getD, List.getElem?_eq_getElem (show j < an.length by rw [M3.out]; exact hlt2)])
          have HtL : Hid ((an.take j).length = j) := Lib.hid (by rw [List.length_take, M3.out]; omega)
          have hB2 : B ≤ wr.heap.size := Nat.le_trans hB HcB.out.size
          have HR : Hid (∀ W, Below wr.heap.size wr W → Rd W B e0 ((an.getD j default).code.flatMap ic)) := Lib.hid (fun W hW => row_rd ic_len (by omega) (g0.below (hW.mono hB2)).1)
          have HA0 : Hid (e0 = none → (an.getD j default).code.length = 0) := Lib.hid g0.2.1
          have HLn := Lib.hid (flat_length ic_len (an.getD j default).code)
          have L5 : (an.getD j default).code.length ≤ 4000000 := R1.out.2.2 j (by rw [M3.out]; exact hlt2)
          clear g0
          generalize an.getD j default = nd at *
          obtain ⟨cl, n2', n3, n4, n5⟩ := nd
          dsimp only at *
          generalize hl5 : cl.length = l5 at *
          have M5 := Lib.hid hl5
          clear hl5
          go_upto_region 10 with (fail)
          clear c2 c3 x3 x4 x5 x6 x7
          have ba := below_alloc wr (.cells #[.slice e0 l5 e1, .int .i64 n2', .int .i64 n3, .int .i64 n4, .int .i64 n5] 60)
          have x7 := heap_alloc_new wr (.cells #[.slice e0 l5 e1, .int .i64 n2', .int .i64 n3, .int .i64 n4, .int .i64 n5] 60)
          generalize wr.alloc (.cells #[.slice e0 l5 e1, .int .i64 n2', .int .i64 n3, .int .i64 n4, .int .i64 n5] 60) = wa at *
          have lt7 := lt_blk x7
          have Ba := Lib.hid ba; have X7 := Lib.hid x7
          have c7 : wa.cell? ⟨wr.heap.size, 0, none⟩ = some (.slice e0 l5 e1) := by rw [cell_blk x7]; rfl
          have hBa : B ≤ wa.heap.size := by omega
          clear ba x7
          go_upto_region 11 with (at_builtin; refine wpList_append_srcS ESI rfl (.tmp 57) (.tmp 59) rfl wa.heap.size _ 0 [] rfl (owns0S wa _ _ _ (Nat.le_refl _)) B e0 (cl.flatMap ic) l5 e1 rfl HLn.out ((HR.out wa Ba.out).keep fun b o hb => World.cell?_alloc_lt _ _ _ (Nat.lt_of_lt_of_le hb hBa)) HA0.out (flat_one ic_one cl) (by omega) (by omega) wa (Nat.le_refl _) (below_alloc _ _) ?_; intro v' w' h2 h3 h4 h5; clear h4 h5; rw [Nat.zero_add] at h2; obtain ⟨p', rfl, h6⟩ := own_sv h2; unfold sv; have e7 := (h3.block wr.heap.size lt7).trans X7.out; have c8 : w'.cell? ⟨wr.heap.size, 0, none⟩ = some (.slice e0 l5 e1) := (by rw [cell_blk e7]; rfl); have fz7 : ∀ j, w'.frozen? ⟨wr.heap.size, j, none⟩ = false := (fun j => free_blk e7 j); have H2 := Lib.hid h6; have H3 := Lib.hid h3; have E7 := Lib.hid e7; clear h2 h3 h6 e7 c7)
          obtain ⟨d1, d2⟩ := set1 E7.out 0 (.slice p'.1 l5 p'.2)
          generalize w'.setCell ⟨wr.heap.size, 0, none⟩ (.slice p'.1 l5 p'.2) = wb at *
          have d1 : wb.heap[wr.heap.size]? = some (.cells #[.slice p'.1 l5 p'.2, .int .i64 n2', .int .i64 n3, .int .i64 n4, .int .i64 n5] 60 (0, 0)) := d1.trans rfl
          have Bb := Lib.hid ((Ba.out.trans (H3.out.mono Ba.out.size)).grown d2 (Nat.le_trans Ba.out.size H3.out.size) (fun k hk => by injection hk with hk; omega))
          have HI2 : Hid (OwI wb wo.heap.size p' cl) := Lib.hid ((OwI.spares (w := w') (by unfold OwI; rw [M5.out]; simpa using H2.out) (Spares.own_blk d2 E7.out) (by decide)).le (Nat.le_trans Hbi.out.size Ba.out.size))
          have Bo := Lib.hid (Hbi.out.trans (Bb.out.mono Hbi.out.size))
          obtain ⟨ho1, r, ho2, ns, ho3, ho4⟩ := Hoi.out.below Bb.out
          have Nl : Hid (ns.length = j) := Lib.hid (by rw [← HtL.out, ← ho3, List.length_map])
          have ho2 : wb.heap[g5]? = some (.cells #[.slice q5.1 al.length q5.2, .int .i64 ks, .slice r.1 j r.2] 57 (0, 0)) := by
            have := ho2; unfold sv at this; rw [HtL.out] at this; exact this
          have Hrow : Hid (wb.ownsRow wo.heap.size 60 5 (.slice r.1 j r.2) j (ns.flatMap fun x => ndc x.1 x.2)) := Lib.hid (by have := ho4.1; unfold sv at this; rw [Nl.out] at this; exact this)
          have Ho2 := Lib.hid ho2; have Ho3 := Lib.hid ho3; have Ho1 := Lib.hid ho1
          have Ho4 := Lib.hid ho4.2
          have c5 : wb.cell? ⟨g5, 2, none⟩ = some (.slice r.1 j r.2) := by rw [cell_blk ho2]; rfl
          have x0 : wb.cell? ⟨wr.heap.size, 0, none⟩ = some (.slice p'.1 l5 p'.2) := by rw [cell_blk d1]; rfl
          have x1 : wb.cell? ⟨wr.heap.size, 1, none⟩ = some (.int .i64 n2') := by rw [cell_blk d1]; rfl
          have x2 : wb.cell? ⟨wr.heap.size, 2, none⟩ = some (.int .i64 n3) := by rw [cell_blk d1]; rfl
          have x3 : wb.cell? ⟨wr.heap.size, 3, none⟩ = some (.int .i64 n4) := by rw [cell_blk d1]; rfl
          have x4 : wb.cell? ⟨wr.heap.size, 4, none⟩ = some (.int .i64 n5) := by rw [cell_blk d1]; rfl
          have lt5 := lt_blk ho2
          clear ho1 ho2 ho3 ho4 d1 d2 c8 fz7 H2 H3 E7 lt7 X7
          go_upto_region 8 with (at_builtin; refine wpList_append_oneS ESN [.slice p'.1 l5 p'.2, .int .i64 n2', .int .i64 n3, .int .i64 n4, .int .i64 n5] _ rfl rfl (.tmp 63) (.tmp 65) rfl wo.heap.size (by intro u hu; simp at hu; rcases hu with rfl | rfl | rfl | rfl | rfl <;> rfl) 1 rfl (.slice r.1 j r.2) j (ns.flatMap fun x => ndc x.1 x.2) rfl Hrow.out rfl (by omega) (by omega) wo (Nat.le_refl _) Bo.out ?_; intro v' w' h2 h3 h4 h5; clear h5; have Sp := Lib.hid (Spares.grown h4 (own_row Hrow.out)); obtain ⟨p9, hv9, h9⟩ := OwNs.snoc (p := r) (w := wb) (n := ⟨cl, n2', n3, n4, n5⟩) (q := p') Ho3.out (fun x hx => (Ho4.out x hx).spares Sp.out (by decide)) (HI2.out.spares Sp.out (by decide)) (by rw [Nl.out, show ndc ⟨cl, n2', n3, n4, n5⟩ p' = [.slice p'.1 l5 p'.2, .int .i64 n2', .int .i64 n3, .int .i64 n4, .int .i64 n5] from (by unfold ndc; rw [M5.out])]; exact h2); rw [HtL.out] at hv9; subst hv9; unfold sv; have e9 := Sp.out.2 _ _ _ _ (by decide) Ho2.out; have c9 : w'.cell? ⟨g5, 2, none⟩ = some (.slice r.1 j r.2) := (by rw [cell_blk e9]; rfl); have fz9 : ∀ j, w'.frozen? ⟨g5, j, none⟩ = false := (fun j => free_blk e9 j); have E9 := Lib.hid e9; have H9 := Lib.hid h9; have H3 := Lib.hid h3; clear h2 h3 h4 h9 e9 c5 x0 x1 x2 x3 x4)
          obtain ⟨d1, d2⟩ := set1 E9.out 2 (.slice p9.1 (j + 1) p9.2)
          generalize w'.setCell ⟨g5, 2, none⟩ (.slice p9.1 (j + 1) p9.2) = wd at *
          have Bd := Lib.hid (H3.out.grown d2 H3.out.size (fun k hk => by injection hk with hk; rw [← hk]; exact HG5.out))
          have SpB := Spares.own_blk d2 E9.out
          have HO : Hid (OutB wd wo.heap.size g5 q5 al ks (an.take (j + 1))) := Lib.hid (by
            rw [HTn.out]
            refine ⟨(Ho1.out.spares Sp.out (by decide)).spares SpB (by decide), p9, ?_, H9.out.spares SpB (by decide) (by decide)⟩
            rw [d1, List.length_append, HtL.out]
            rfl)
          clear d1 d2 c9 fz9 SpB
          go_wp2_with fail
          go_roundw
          case rel => exact ⟨j + 1, by omega, by go_num, Bd.out, HO.out⟩
          case measure => simp [intOf]; omega
        · obtain rfl : j = l3 := by omega
          have HtA : Hid (an.take j = an) := Lib.hid (by rw [List.take_of_length_le]; rw [M3.out]; omega)
          obtain ⟨ha1, ra, ha2, ha3⟩ := Hoi.out
          rw [HtA.out] at ha2 ha3
          obtain ⟨ho1, r, ho2, xs, ho3, ho4⟩ := Ho.out.below Hbi.out
          have HtL : Hid ((bs.take k).length = k) := Lib.hid (by rw [List.length_take, ← N2.out]; omega)
          have Nl : Hid (xs.length = k) := Lib.hid (by rw [← HtL.out, ← ho3, List.length_map])
          have ho2 : wr.heap[g3]? = some (.cells #[.slice q.1 sh.length q.2, .int .i64 mt, .slice r.1 k r.2] 25 (0, 0)) := by
            have := ho2; unfold sv at this; rw [HtL.out] at this; exact this
          have ha2 : wr.heap[g5]? = some (.cells #[.slice q5.1 l1 q5.2, .int .i64 ks, .slice ra.1 j ra.2] 57 (0, 0)) := by
            have := ha2; unfold sv at this; rw [M1.out, M3.out] at this; exact this
          have Hrow : Hid (wr.ownsRow w1.heap.size 57 3 (.slice r.1 k r.2) k (xs.flatMap fun x => bdc x.1 x.2.1 x.2.2)) := Lib.hid (by have := ho4.1; unfold sv at this; rw [Nl.out] at this; exact this)
          have Ho2 := Lib.hid ho2; have Ho3 := Lib.hid ho3; have Ho1 := Lib.hid ho1; have Ho4 := Lib.hid ho4.2
          have Ha1 := Lib.hid (ha1.le Hb.out.size); have Ha3 := Lib.hid (ha3.le Hb.out.size)
          have Bo := Lib.hid (Hb.out.trans (Hbi.out.mono Hb.out.size))
          have c5 : wr.cell? ⟨g3, 2, none⟩ = some (.slice r.1 k r.2) := by rw [cell_blk ho2]; rfl
          have x0 : wr.cell? ⟨g5, 0, none⟩ = some (.slice q5.1 l1 q5.2) := by rw [cell_blk ha2]; rfl
          have x1 : wr.cell? ⟨g5, 1, none⟩ = some (.int .i64 ks) := by rw [cell_blk ha2]; rfl
          have x2 : wr.cell? ⟨g5, 2, none⟩ = some (.slice ra.1 j ra.2) := by rw [cell_blk ha2]; rfl
          have lt5 := lt_blk ho2
          clear ho1 ho2 ho3 ho4 ha1 ha2 ha3
          go_upto_region 4 with (at_builtin; refine wpList_append_oneS ESB [.slice q5.1 l1 q5.2, .int .i64 ks, .slice ra.1 j ra.2] _ rfl rfl (.tmp 69) (.tmp 71) rfl w1.heap.size (by intro u hu; simp at hu; rcases hu with rfl | rfl | rfl <;> rfl) 1 rfl (.slice r.1 k r.2) k (xs.flatMap fun x => bdc x.1 x.2.1 x.2.2) rfl Hrow.out rfl (by omega) (by omega) w1 (Nat.le_refl _) Bo.out ?_; intro v' w' h2 h3 h4 h5; clear h5; have Sp := Lib.hid (Spares.grown h4 (own_row Hrow.out)); obtain ⟨p9, hv9, h9⟩ := OwBs.snoc (p := r) (w := wr) (n := ⟨al, ks, an⟩) (q := q5) (r := ra) Ho3.out (fun x hx => ⟨(Ho4.out x hx).1.spares Sp.out (by decide), (Ho4.out x hx).2.spares Sp.out (by decide) (by decide)⟩) (Ha1.out.spares Sp.out (by decide)) (Ha3.out.spares Sp.out (by decide) (by decide)) (by rw [Nl.out, show bdc ⟨al, ks, an⟩ q5 ra = [.slice q5.1 l1 q5.2, .int .i64 ks, .slice ra.1 j ra.2] from (by unfold bdc; rw [M1.out, M3.out])]; exact h2); rw [HtL.out] at hv9; subst hv9; unfold sv; have e9 := Sp.out.2 _ _ _ _ (by decide) Ho2.out; have c9 : w'.cell? ⟨g3, 2, none⟩ = some (.slice r.1 k r.2) := (by rw [cell_blk e9]; rfl); have fz9 : ∀ j, w'.frozen? ⟨g3, j, none⟩ = false := (fun j => free_blk e9 j); have E9 := Lib.hid e9; have H9 := Lib.hid h9; have H3 := Lib.hid h3; clear h2 h3 h4 h9 e9 c5 x0 x1 x2)
          obtain ⟨d1, d2⟩ := set1 E9.out 2 (.slice p9.1 (k + 1) p9.2)
          generalize w'.setCell ⟨g3, 2, none⟩ (.slice p9.1 (k + 1) p9.2) = wd at *
          have Bd := Lib.hid (H3.out.grown d2 H3.out.size (fun k hk => by injection hk with hk; rw [← hk]; exact HG.out))
          have SpB := Spares.own_blk d2 E9.out
          have HO : Hid (OutC wd w1.heap.size g3 q sh mt (bs.take (k + 1))) := Lib.hid (by
            rw [HTk.out]
            refine ⟨(Ho1.out.spares Sp.out (by decide)).spares SpB (by decide), p9, ?_, H9.out.spares SpB (by decide) (by decide) (by decide) (by decide)⟩
            rw [d1, List.length_append, HtL.out]
            rfl)
          clear d1 d2 c9 fz9 SpB
          go_wp2_with fail
          go_roundw
          case rel => exact ⟨k + 1, by omega, by go_num, Bd.out, HO.out⟩
          case measure => simp [intOf]; omega
    · obtain rfl : k = n2 := by omega
      have HtA : Hid (bs.take k = bs) := Lib.hid (by rw [List.take_of_length_le]; rw [← N2.out]; omega)
      obtain ⟨ha1, r, ha2, ha3⟩ := Ho.out
      rw [HtA.out] at ha2 ha3
      have ha2 : wo.heap[g3]? = some (.cells #[.slice q.1 n1 q.2, .int .i64 mt, .slice r.1 k r.2] 25 (0, 0)) := by
        have := ha2; unfold sv at this; rw [← N1.out, ← N2.out] at this; exact this
      have e2 := (Hb.out.block _ (lt_blk B1.out)).trans B1.out
      have x0 : wo.cell? ⟨g3, 0, none⟩ = some (.slice q.1 n1 q.2) := by rw [cell_blk ha2]; rfl
      have x1 : wo.cell? ⟨g3, 1, none⟩ = some (.int .i64 mt) := by rw [cell_blk ha2]; rfl
      have x2 : wo.cell? ⟨g3, 2, none⟩ = some (.slice r.1 k r.2) := by rw [cell_blk ha2]; rfl
      have y0 : wo.cell? ⟨w.heap.size + 1, 0, none⟩ = some (.slice none 0 0) := by rw [cell_blk e2]; rfl
      have y1 : wo.cell? ⟨w.heap.size + 1, 1, none⟩ = some (.int .i64 0) := by rw [cell_blk e2]; rfl
      have y2 : wo.cell? ⟨w.heap.size + 1, 2, none⟩ = some (.slice none 0 0) := by rw [cell_blk e2]; rfl
      have fz : ∀ j, wo.frozen? ⟨w.heap.size + 1, j, none⟩ = false := fun j => free_blk e2 j
      have E2 := Lib.hid e2; have Ha1 := Lib.hid ha1; have Ha3 := Lib.hid ha3
      clear ha1 ha2 ha3 e2
      go_wp2_with fail
      obtain ⟨d1, d2⟩ := set3 E2.out (.slice q.1 n1 q.2) (.int .i64 mt) (.slice r.1 k r.2)
      clear x0 x1 x2 y0 y1 y2 fz
      generalize ((wo.setCell ⟨w.heap.size + 1, 0, none⟩ (.slice q.1 n1 q.2)).setCell ⟨w.heap.size + 1, 1, none⟩ (.int .i64 mt)).setCell ⟨w.heap.size + 1, 2, none⟩ (.slice r.1 k r.2) = wz at *
      have SpB := Spares.own_blk d2 E2.out
      have Bz := Lib.hid ((HB.out.trans (Hb.out.mono HB.out.size)).grown d2 (Nat.le_trans HB.out.size Hb.out.size) (fun k hk => by injection hk with hk; omega))
      have HF : Hid (OwnCd wz w.heap.size (.agg #[.slice q.1 n1 q.2, .int .i64 mt, .slice r.1 k r.2]) ⟨sh, mt, bs⟩) := Lib.hid ⟨q, r, by unfold cdv; dsimp only; rw [← N1.out, ← N2.out], (Ha1.out.spares SpB (by decide)).le HB.out.size, OwBs.le (Ha3.out.spares SpB (by decide) (by decide) (by decide) (by decide)) HB.out.size⟩
      have x0 : wz.cell? ⟨w.heap.size + 1, 0, none⟩ = some (.slice q.1 n1 q.2) := by rw [cell_blk d1]; rfl
      have x1 : wz.cell? ⟨w.heap.size + 1, 1, none⟩ = some (.int .i64 mt) := by rw [cell_blk d1]; rfl
      have x2 : wz.cell? ⟨w.heap.size + 1, 2, none⟩ = some (.slice r.1 k r.2) := by rw [cell_blk d1]; rfl
      clear d1 d2 SpB
      exact bodyPost_ret (v := .agg #[.slice q.1 n1 q.2, .int .i64 mt, .slice r.1 k r.2]) (by simp [results, Try.results8, x0, x1, x2, go_sem]) rfl ⟨_, rfl, HF.out, Bz.out⟩
end Go.Proofs.Ytbmpjphemjponaa
