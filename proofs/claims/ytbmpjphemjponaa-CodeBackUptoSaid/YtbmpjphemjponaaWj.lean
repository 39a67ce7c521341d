/- (code.laid).node, code.Bytes. -/
import Derived.Test.YtbmpjphemjponaaWi
set_option linter.unusedSimpArgs false
set_option linter.unusedVariables false
namespace Go.Proofs.Ytbmpjphemjponaa
open Go.RowKit

def inB (i : Ins) : List UInt8 := beb 1 i.op.toNat ++ beb 1 i.arg.toNat ++ (if i.op = 1 then vlB i.l else [])
def ndB (n : Nd) : List UInt8 := beb 2 n.code.length ++ n.code.flatMap inB ++ beb 1 n.kind.toNat ++ beb 1 n.arg.toNat ++ beb 2 n.next.toNat ++ beb 2 n.alt.toNat
def bdB (b : Bd) : List UInt8 := (beb 1 b.locals.length ++ b.locals.flatMap vlB) ++ beb 1 b.stack.toNat ++ beb 2 b.nodes.length ++ b.nodes.flatMap ndB
def cdB (c : Cd) : List UInt8 := (beb 1 c.shared.length ++ c.shared.flatMap vlB) ++ beb 1 c.mutexes.toNat ++ beb 1 c.bodies.length ++ c.bodies.flatMap bdB
theorem inOk_arg {ns nl : Int} {i : Ins} (h : inOk ns nl i = true) (h1 : ns ≤ 4000000) (h2 : nl ≤ 4000000) : 0 ≤ i.arg ∧ i.arg < 4000000 := by
  unfold inOk wi at h
  split at h
  · simp only [Bool.and_eq_true, decide_eq_true_eq] at h; omega
  · split at h
    · simp only [Bool.and_eq_true, decide_eq_true_eq] at h; omega
    · split at h
      · simp only [Bool.and_eq_true, decide_eq_true_eq] at h; omega
      · split at h
        · simp only [Bool.and_eq_true, decide_eq_true_eq] at h; omega
        · cases h
theorem ndOk_in {ns nl nn mt : Int} {n : Nd} (h : ndOk ns nl nn mt n = true) (h1 : ns ≤ 4000000) (h2 : nl ≤ 4000000) (h3 : nn ≤ 4000000) (h4 : mt ≤ 4000000) :
    (1 ≤ n.kind ∧ n.kind ≤ 7) ∧ (0 ≤ n.arg ∧ n.arg < 4000000) ∧ (0 ≤ n.next ∧ n.next < 4000001) ∧ (0 ≤ n.alt ∧ n.alt < 4000001) := by
  unfold ndOk ndArg wi at h
  simp only [Bool.and_eq_true, decide_eq_true_eq] at h
  obtain ⟨hk, ha, hn, hal⟩ := h
  refine ⟨hk, ?_, by omega, ?_⟩
  · split at ha
    · simp only [Bool.and_eq_true, decide_eq_true_eq] at ha; omega
    · split at ha
      · simp only [Bool.and_eq_true, decide_eq_true_eq] at ha; omega
      · split at ha
        · simp only [Bool.and_eq_true, decide_eq_true_eq] at ha; omega
        · simp only [decide_eq_true_eq] at ha; omega
  · split at hal
    · simp only [Bool.and_eq_true, decide_eq_true_eq] at hal; omega
    · simp only [decide_eq_true_eq] at hal; omega
theorem u64_self (n : Nat) (h : n < 18446744073709551616) : IntKind.u64.wrap (n : Int) = n := by rw [IntKind.wrap_u64]; omega
theorem inB_lit {i : Ins} (h : i.op = 1) : inB i = beb 1 i.op.toNat ++ beb 1 i.arg.toNat ++ vlB i.l := by unfold inB; rw [if_pos h]
theorem inB_not {i : Ins} (h : i.op ≠ 1) : inB i = beb 1 i.op.toNat ++ beb 1 i.arg.toNat := by unfold inB; rw [if_neg h, List.append_nil]
theorem Laid.eq {w w' : World} {base n n2 : Nat} {v0 v : Value} {l l2 : List UInt8} (h : Laid w base v0 n l v w') (hl : l = l2) (hn : n = n2) : Laid w base v0 n2 l2 v w' := by subst hl hn; exact h
/-- what stands in the loop over the instructions. -/
def InvI (w : World) (base : Nat) (v0 : Value) (n : Nat) (l : List UInt8) (v : Value) (wr : World) : Prop := n = l.length ∧ Laid w base v0 n l v wr
set_option maxRecDepth 100000 in
set_option maxHeartbeats 4000000 in
theorem laidnode_any (x : Nd) (ns nl nn mt : Int) (p : Slc) (B : Nat) (base : Nat) (v : Value) (l : List UInt8) (hns : ns ≤ 4000000) (hnl : nl ≤ 4000000) (hnn : nn ≤ 4000000) (hmt : mt ≤ 4000000) (hlen : x.code.length ≤ 4000000) (hx : IsIn x.code) (hin : x.code.all (inOk ns nl) = true) (hok : ndOk ns nl nn mt x = true)
    (hn : (l ++ ndB x).length ≤ 800000000) (w : World) (hown : w.ownsRow base 5 1 v l.length (bcells l)) (hB : base ≤ w.heap.size) (hBb : B ≤ base) (hs : InsAt w B p x.code) :
    Calls Try.prog 39 #[v, ndv x p] w (GotL w base v (l ++ ndB x).length (l ++ ndB x)) := by
  obtain ⟨⟨k1, k2⟩, ⟨a1, a2⟩, ⟨n1, n2⟩, ⟨t1, t2⟩⟩ := ndOk_in hok hns hnl hnn hmt
  have HA := Lib.hid (fun i (hi : i < x.code.length) => inOk_arg (all_at hin hi) hns hnl)
  have HO := Lib.hid hown; have HS := Lib.hid hs; have HX := Lib.hid hx
  have HB0 : Hid (ndB x = beb 2 x.code.length ++ x.code.flatMap inB ++ beb 1 x.kind.toNat ++ beb 1 x.arg.toNat ++ beb 2 x.next.toNat ++ beb 2 x.alt.toNat) := Lib.hid rfl
  have HN := Lib.hid hn
  clear hown hs hx hin hok hn hns hnl hnn hmt
  generalize ndB x = out at *
  obtain ⟨cd, kind, arg, next, alt⟩ := x
  obtain ⟨A, c⟩ := p
  unfold ndv
  dsimp only at *
  obtain ⟨kind, rfl⟩ := Int.eq_ofNat_of_zero_le (show 0 ≤ kind by omega)
  obtain ⟨arg, rfl⟩ := Int.eq_ofNat_of_zero_le a1
  obtain ⟨next, rfl⟩ := Int.eq_ofNat_of_zero_le n1
  obtain ⟨alt, rfl⟩ := Int.eq_ofNat_of_zero_le t1
  have HB1 : Hid (out = beb 2 cd.length ++ cd.flatMap inB ++ beb 1 kind ++ beb 1 arg ++ beb 2 next ++ beb 2 alt) := HB0
  clear HB0
  have HPL : Hid (∀ k, (l ++ (beb 2 cd.length ++ (cd.take k).flatMap inB)).length ≤ 800000000) := Lib.hid (fun k => by
    have h1 := HN.out; have h2 := flat_le inB cd k
    rw [HB1.out] at h1
    simp only [List.length_append] at h1 ⊢
    omega)
  generalize hm : cd.length = m at *
  have HM := Lib.hid hm
  clear hm
  have wk := u64_self kind (by omega); have wa := u64_self arg (by omega); have wn := u64_self next (by omega); have wt := u64_self alt (by omega); have wm := u64_self m (by omega)
  have hl0 : l.length ≤ 800000000 := by have := HN.out; rw [List.length_append] at this; omega
  go_enter Try.func39, Try.ntmps39
  go_upto_region 1 with (fail)
  obtain ⟨b0_, hb_⟩ := boxes1 w (.cells #[.slice A m c, .int .i64 kind, .int .i64 arg, .int .i64 next, .int .i64 alt] 60)
  generalize w.alloc (.cells #[.slice A m c, .int .i64 kind, .int .i64 arg, .int .i64 next, .int .i64 alt] 60) = w0 at *
  have T0b : Hid (∀ W, Below w0.heap.size w0 W → W.heap[w.heap.size]? = some (.cells #[.slice A m c, .int .i64 kind, .int .i64 arg, .int .i64 next, .int .i64 alt] 60 (0, 0))) := Lib.hid (fun W hW => (hW.block _ (lt_blk b0_)).trans b0_)
  have T0 : Hid (∀ W, Below w0.heap.size w0 W → W.cell? ⟨w.heap.size, 0, none⟩ = some (.slice A m c) ∧ W.cell? ⟨w.heap.size, 1, none⟩ = some (.int .i64 kind) ∧ W.cell? ⟨w.heap.size, 2, none⟩ = some (.int .i64 arg) ∧ W.cell? ⟨w.heap.size, 3, none⟩ = some (.int .i64 next) ∧ W.cell? ⟨w.heap.size, 4, none⟩ = some (.int .i64 alt)) := Lib.hid (fun W hW => by have e := (hW.block _ (lt_blk b0_)).trans b0_; exact ⟨by rw [cell_blk e]; rfl, by rw [cell_blk e]; rfl, by rw [cell_blk e]; rfl, by rw [cell_blk e]; rfl, by rw [cell_blk e]; rfl⟩)
  have BA := Lib.hid hb_
  clear hb_ b0_
  have HNE := Lib.hid (own_new HO.out (Nat.le_refl _))
  have hlt : w.heap.size < w0.heap.size := lt_blk (T0b.out w0 (Below.refl _ _))
  have hB0 : base ≤ w0.heap.size := by omega
  have HI : Hid (∀ n' l' v' W', Laid w0 base v n' l' v' W' → W'.heap[w.heap.size]? = some (.cells #[.slice A m c, .int .i64 kind, .int .i64 arg, .int .i64 next, .int .i64 alt] 60 (0, 0))) := Lib.hid (fun n' l' v' W' h => (h.keep hlt HNE.out).1.trans (T0b.out w0 (Below.refl _ _)))
  obtain ⟨c0, -, -, -, -⟩ := T0.out w0 (Below.refl _ _)
  go_wp2_with fail
  refine (put_any m 2 (by omega) (by omega) base v l.length l (by omega) _ (own_below HO.out BA.out) hB0).mono ?_
  rintro e w1 ⟨v1, rfl, h1⟩
  clear c0
  have u0 := cell_blk (HI.out _ _ _ _ h1) 0
  have H1 := Lib.hid h1
  clear h1
  go_wp2_with fail
  clear u0
  go_loopw [0, 16] (fun u iv wr => ∃ (k : Nat) (v2 : Value), v2 = u ∧ k ≤ m ∧ iv = .int .i64 k ∧ Laid w0 base v (l ++ (beb 2 m ++ (cd.take k).flatMap inB)).length (l ++ (beb 2 m ++ (cd.take k).flatMap inB)) v2 wr) (fun _ iv _ => m - (intOf iv).toNat)
  case atStart => exact ⟨0, _, rfl, by omega, rfl, H1.out.eq (by simp) (by simp [beb_length])⟩
  case round =>
    obtain ⟨k, v2, rfl, hk, rfl, hl2⟩ := hrel
    have HL := Lib.hid hl2
    clear hl2
    have HP := Lib.hid (HPL.out k)
    by_cases hlt2 : k < m
    · obtain ⟨b, o, hA, hb1, x0, x1, x2, x3⟩ := InsAt.cells HS.out (show k < cd.length by rw [HM.out]; exact hlt2)
      dsimp only at hA
      subst hA
      have HBw := Lib.hid ((BA.out.mono hB).trans HL.out.2.1)
      have x0 := (HBw.out.cell (p := ⟨b, _, none⟩) (Nat.lt_of_lt_of_le hb1 hBb)).trans x0
      have x1 := (HBw.out.cell (p := ⟨b, _, none⟩) (Nat.lt_of_lt_of_le hb1 hBb)).trans x1
      have x2 := (HBw.out.cell (p := ⟨b, _, none⟩) (Nat.lt_of_lt_of_le hb1 hBb)).trans x2
      have x3 := (HBw.out.cell (p := ⟨b, _, none⟩) (Nat.lt_of_lt_of_le hb1 hBb)).trans x3
      have HXk := Lib.hid (HX.out k (by rw [HM.out]; exact hlt2))
      have HF := Lib.hid (flat_snoc inB cd k (by rw [HM.out]; exact hlt2))
      have HPk := Lib.hid (HPL.out (k + 1))
      obtain ⟨ha1, ha2⟩ := HA.out k hlt2
      have HL1 := Lib.hid (inB_lit (i := cd.getD k default)); have HL2 := Lib.hid (inB_not (i := cd.getD k default))
      generalize inB (cd.getD k default) = ib at *
      generalize cd.getD k default = a at *
      obtain ⟨op, ag, ⟨t, bt⟩⟩ := a
      obtain ⟨⟨ho1, ho2⟩, HV⟩ := HXk.out
      dsimp only at *
      have HV := Lib.hid HV
      obtain ⟨op, rfl⟩ := Int.eq_ofNat_of_zero_le ho1
      obtain ⟨ag, rfl⟩ := Int.eq_ofNat_of_zero_le ha1
      have wo := u64_self op (by omega); have wg := u64_self ag (by omega)
      have HL1 : Hid (op = 1 → ib = beb 1 op ++ beb 1 ag ++ vlB ⟨t, bt⟩) := Lib.hid (fun e => HL1.out (by omega))
      have HL2 : Hid (op ≠ 1 → ib = beb 1 op ++ beb 1 ag) := Lib.hid (fun e => HL2.out (by omega))
      clear wk wa wn wt wm ho1 ha1
      generalize hpre : l ++ (beb 2 m ++ (cd.take k).flatMap inB) = pre at *
      have HPRE := Lib.hid hpre
      clear hpre
      go_upto_region 5 with (fail)
      clear x0 x1 x2 x3
      have Hcur := Lib.hid HL.out.1
      have HszW := Lib.hid (Nat.le_trans hB0 HL.out.2.2.1.size)
      have HNE2 := Lib.hid (own_new HL.out.1 (Nat.le_refl _))
      obtain ⟨b0_, hb_⟩ := boxes1 wr (.cells #[.int .u8 op, .int .i64 ag, .int .u8 t, .int .u64 bt] 53)
      generalize wr.alloc (.cells #[.int .u8 op, .int .i64 ag, .int .u8 t, .int .u64 bt] 53) = wi at *
      have Tib : Hid (∀ W, Below wi.heap.size wi W → W.heap[wr.heap.size]? = some (.cells #[.int .u8 op, .int .i64 ag, .int .u8 t, .int .u64 bt] 53 (0, 0))) := Lib.hid (fun W hW => (hW.block _ (lt_blk b0_)).trans b0_)
      have Ti : Hid (∀ W, Below wi.heap.size wi W → W.cell? ⟨wr.heap.size, 0, none⟩ = some (.int .u8 op) ∧ W.cell? ⟨wr.heap.size, 1, none⟩ = some (.int .i64 ag) ∧ W.cell? ⟨wr.heap.size, 2, none⟩ = some (.int .u8 t) ∧ W.cell? ⟨wr.heap.size, 3, none⟩ = some (.int .u64 bt)) := Lib.hid (fun W hW => by have e := (hW.block _ (lt_blk b0_)).trans b0_; exact ⟨by rw [cell_blk e]; rfl, by rw [cell_blk e]; rfl, by rw [cell_blk e]; rfl, by rw [cell_blk e]; rfl⟩)
      have Bi := Lib.hid hb_
      clear hb_ b0_
      have hlt3 : wr.heap.size < wi.heap.size := lt_blk (Tib.out wi (Below.refl _ _))
      have hBi : base ≤ wi.heap.size := by have := HszW.out; omega
      have HIi : Hid (∀ n' l' v' W', Laid wi base v2 n' l' v' W' → W'.heap[wr.heap.size]? = some (.cells #[.int .u8 op, .int .i64 ag, .int .u8 t, .int .u64 bt] 53 (0, 0))) := Lib.hid (fun n' l' v' W' h => (h.keep hlt3 HNE2.out).1.trans (Tib.out wi (Below.refl _ _)))
      generalize hpl : pre.length = pl at *
      have HPL2 := Lib.hid hpl
      have hpl9 : pl ≤ 800000000 := HP.out
      clear hpl
      apply wp_region_relC (fun W => W.heap[wr.heap.size]? = some (.cells #[.int .u8 op, .int .i64 ag, .int .u8 t, .int .u64 bt] 53 (0, 0))) (Laid wi base v2 pl pre v2) 9 [(Sum.inl _ : TC), (Sum.inl _ : TC), (Sum.inl _ : TC), (Sum.inl _ : TC), .inr (fun _ => True, fun v1 => Laid wi base v2 (pl + 1) (pre ++ beb 1 op) v1), (Sum.inl _ : TC), (Sum.inl _ : TC), (Sum.inl _ : TC), .inr (fun _ => True, fun v1 => Laid wi base v2 (pl + 1 + 1) (pre ++ beb 1 op ++ beb 1 ag) v1)] [false, false, false, false, true, false, false, false, true] (by kernel_rfl) (by kernel_rfl) (by kernel_rfl) rfl rfl (Laid.keeps _ _ _ _ _ _ hBi) (Tib.out _ (Below.refl _ _).drew) (Laid.start (own_below Hcur.out Bi.out))
      simp only [List.take_succ_cons, List.take_zero, List.drop_succ_cons, List.drop_zero]
      iterate 4 (apply rel_isC; (intro W hW hf; have u0 := cell_blk hW 0; have u1 := cell_blk hW 1; go_simp; first | exact ⟨⟨hW, Below.refl _ _⟩, rfl⟩ | exact ⟨Below.refl _ _, rfl⟩ | rfl); simp only [Act.put, List.setIfInBounds_toArray, List.set_cons_succ, List.set_cons_zero])
      apply rel_effC
      · intro W hW hS
        exact rel_callE (by first | rfl | (go_simp; done) | (go_simp; simp)) (by go_simp <;> first | rfl | exact ⟨rfl, rfl⟩ | exact ⟨rfl, rfl, rfl⟩) (hS.put hBi op 1 (by omega) (by omega) (by omega) _ (fun v' W' h => HIi.out _ _ v' W' h))
      · exact fun v => Laid.keeps _ _ _ _ _ _ hBi
      intro v3
      simp only [Act.put, List.setIfInBounds_toArray, List.set_cons_succ, List.set_cons_zero]
      iterate 3 (apply rel_isC; (intro W hW hf; have u0 := cell_blk hW 0; have u1 := cell_blk hW 1; go_simp; first | exact ⟨⟨hW, Below.refl _ _⟩, rfl⟩ | exact ⟨Below.refl _ _, rfl⟩ | rfl); simp only [Act.put, List.setIfInBounds_toArray, List.set_cons_succ, List.set_cons_zero])
      apply rel_effC
      · intro W hW hS
        exact rel_callE (by first | rfl | (go_simp; done) | (go_simp; simp)) (by go_simp <;> first | rfl | exact ⟨rfl, rfl⟩ | exact ⟨rfl, rfl, rfl⟩) (hS.put hBi ag 1 (by omega) (by omega) (by omega) _ (fun v' W' h => HIi.out _ _ v' W' h))
      · exact fun v => Laid.keeps _ _ _ _ _ _ hBi
      intro v4
      simp only [Act.put, List.setIfInBounds_toArray, List.set_cons_succ, List.set_cons_zero]
      refine rel_endC ?_
      intro W hW hS hf
      try simp only [Act.put, List.setIfInBounds_toArray, List.set_cons_succ, List.set_cons_zero]
      have HW0 := cell_blk hW 0; have HW2 := cell_blk hW 2; have HW3 := cell_blk hW 3
      have HS3 := Lib.hid hS
      clear hW hf hS wo wg
      have HL3 := Lib.hid (HL.out.step Bi.out hB0 HS3.out)
      have hsz3 := HS3.out.2.2.1.size
      by_cases g : op = 1
      · subst g
        go_wp2_with fail
        refine (value_vl ⟨t, bt⟩ HV.out base v4 (pl + 1 + 1) _ (by omega) W HS3.out.1 (by omega)).mono ?_
        rintro e w2 ⟨v5, rfl, h5⟩
        have H5 := Lib.hid (HL3.out.trans h5)
        clear h5 HW0 HW2 HW3
        go_wp2_with fail
        go_roundw
        case rel => exact ⟨k + 1, v5, rfl, by omega, by go_num, H5.out.eq (by rw [HF.out, HL1.out (by trivial), ← HPRE.out]; simp) (by rw [HF.out, HL1.out (by trivial)]; have := HPRE.out; have h2 := HPL2.out; rw [← this] at h2; simp only [List.length_append, beb_length, vlB_len] at h2 ⊢; omega)⟩
        case measure => simp [intOf]; omega
      · have q : ((op : Int) == 1) = false := by rw [beq_eq_false_iff_ne]; omega
        go_wp2_with fail
        go_roundw
        case rel => exact ⟨k + 1, v4, rfl, by omega, by go_num, HL3.out.eq (by rw [HF.out, HL2.out g, ← HPRE.out]; simp) (by rw [HF.out, HL2.out g]; have := HPRE.out; have h2 := HPL2.out; rw [← this] at h2; simp only [List.length_append, beb_length] at h2 ⊢; omega)⟩
        case measure => simp [intOf]; omega
    · obtain rfl : m = k := by omega
      have HE : Hid (cd.take m = cd) := Lib.hid (List.take_of_length_le (by rw [HM.out]; exact Nat.le_refl _))
      rw [HE.out] at HL HP
      generalize hpre : l ++ (beb 2 m ++ cd.flatMap inB) = pre at *
      have HPRE := Lib.hid hpre
      clear hpre
      generalize hpl : pre.length = pl at *
      have HPL2 := Lib.hid hpl
      have hpl9 : pl ≤ 800000000 := HP.out
      clear hpl
      have HIW := Lib.hid (HI.out _ _ _ _ HL.out)
      have hsz : w0.heap.size ≤ wr.heap.size := HL.out.2.2.1.size
      have hBr : base ≤ wr.heap.size := by omega
      have HNE3 := Lib.hid (HL.out.keep hlt HNE.out).2
      have HI3 : Hid (∀ n' l' v' W', Laid wr base v2 n' l' v' W' → W'.heap[w.heap.size]? = some (.cells #[.slice A m c, .int .i64 kind, .int .i64 arg, .int .i64 next, .int .i64 alt] 60 (0, 0))) := Lib.hid (fun n' l' v' W' h => (h.keep (Nat.lt_of_lt_of_le hlt hsz) HNE3.out).1.trans HIW.out)
      go_upto_region 9 with (fail)
      apply wp_region_relC (fun W => W.heap[w.heap.size]? = some (.cells #[.slice A m c, .int .i64 kind, .int .i64 arg, .int .i64 next, .int .i64 alt] 60 (0, 0))) (Laid wr base v2 pl pre v2) 17 [(Sum.inl _ : TC), (Sum.inl _ : TC), (Sum.inl _ : TC), (Sum.inl _ : TC), .inr (fun _ => True, fun v1 => Laid wr base v2 (pl + 1) (pre ++ beb 1 kind) v1), (Sum.inl _ : TC), (Sum.inl _ : TC), (Sum.inl _ : TC), .inr (fun _ => True, fun v1 => Laid wr base v2 (pl + 1 + 1) (pre ++ beb 1 kind ++ beb 1 arg) v1), (Sum.inl _ : TC), (Sum.inl _ : TC), (Sum.inl _ : TC), .inr (fun _ => True, fun v1 => Laid wr base v2 (pl + 1 + 1 + 2) (pre ++ beb 1 kind ++ beb 1 arg ++ beb 2 next) v1), (Sum.inl _ : TC), (Sum.inl _ : TC), (Sum.inl _ : TC), .inr (fun _ => True, fun v1 => Laid wr base v2 (pl + 1 + 1 + 2 + 2) (pre ++ beb 1 kind ++ beb 1 arg ++ beb 2 next ++ beb 2 alt) v1)] [false, false, false, false, true, false, false, false, true, false, false, false, true, false, false, false, true] (by kernel_rfl) (by kernel_rfl) (by kernel_rfl) rfl rfl (Laid.keeps _ _ _ _ _ _ hBr) (HIW.out) (Laid.start HL.out.1)
      simp only [List.take_succ_cons, List.take_zero, List.drop_succ_cons, List.drop_zero]
      iterate 4 (apply rel_isC; (intro W hW hf; have u1 := cell_blk hW 1; go_simp; first | exact ⟨⟨hW, Below.refl _ _⟩, rfl⟩ | exact ⟨Below.refl _ _, rfl⟩ | rfl); simp only [Act.put, List.setIfInBounds_toArray, List.set_cons_succ, List.set_cons_zero])
      apply rel_effC
      · intro W hW hS
        exact rel_callE (by first | rfl | (go_simp; done) | (go_simp; simp)) (by go_simp <;> first | rfl | exact ⟨rfl, rfl⟩ | exact ⟨rfl, rfl, rfl⟩) (hS.put hBr kind 1 (by omega) (by omega) (by omega) _ (fun v' W' h => HI3.out _ _ v' W' h))
      · exact fun v => Laid.keeps _ _ _ _ _ _ hBr
      intro v3
      simp only [Act.put, List.setIfInBounds_toArray, List.set_cons_succ, List.set_cons_zero]
      iterate 3 (apply rel_isC; (intro W hW hf; have u1 := cell_blk hW 2; go_simp; first | exact ⟨⟨hW, Below.refl _ _⟩, rfl⟩ | exact ⟨Below.refl _ _, rfl⟩ | rfl); simp only [Act.put, List.setIfInBounds_toArray, List.set_cons_succ, List.set_cons_zero])
      apply rel_effC
      · intro W hW hS
        exact rel_callE (by first | rfl | (go_simp; done) | (go_simp; simp)) (by go_simp <;> first | rfl | exact ⟨rfl, rfl⟩ | exact ⟨rfl, rfl, rfl⟩) (hS.put hBr arg 1 (by omega) (by omega) (by omega) _ (fun v' W' h => HI3.out _ _ v' W' h))
      · exact fun v => Laid.keeps _ _ _ _ _ _ hBr
      intro v4
      simp only [Act.put, List.setIfInBounds_toArray, List.set_cons_succ, List.set_cons_zero]
      iterate 3 (apply rel_isC; (intro W hW hf; have u1 := cell_blk hW 3; go_simp; first | exact ⟨⟨hW, Below.refl _ _⟩, rfl⟩ | exact ⟨Below.refl _ _, rfl⟩ | rfl); simp only [Act.put, List.setIfInBounds_toArray, List.set_cons_succ, List.set_cons_zero])
      apply rel_effC
      · intro W hW hS
        exact rel_callE (by first | rfl | (go_simp; done) | (go_simp; simp)) (by go_simp <;> first | rfl | exact ⟨rfl, rfl⟩ | exact ⟨rfl, rfl, rfl⟩) (hS.put hBr next 2 (by omega) (by omega) (by omega) _ (fun v' W' h => HI3.out _ _ v' W' h))
      · exact fun v => Laid.keeps _ _ _ _ _ _ hBr
      intro v5
      simp only [Act.put, List.setIfInBounds_toArray, List.set_cons_succ, List.set_cons_zero]
      iterate 3 (apply rel_isC; (intro W hW hf; have u1 := cell_blk hW 4; go_simp; first | exact ⟨⟨hW, Below.refl _ _⟩, rfl⟩ | exact ⟨Below.refl _ _, rfl⟩ | rfl); simp only [Act.put, List.setIfInBounds_toArray, List.set_cons_succ, List.set_cons_zero])
      apply rel_effC
      · intro W hW hS
        exact rel_callE (by first | rfl | (go_simp; done) | (go_simp; simp)) (by go_simp <;> first | rfl | exact ⟨rfl, rfl⟩ | exact ⟨rfl, rfl, rfl⟩) (hS.put hBr alt 2 (by omega) (by omega) (by omega) _ (fun v' W' h => HI3.out _ _ v' W' h))
      · exact fun v => Laid.keeps _ _ _ _ _ _ hBr
      intro v6
      simp only [Act.put, List.setIfInBounds_toArray, List.set_cons_succ, List.set_cons_zero]
      refine rel_endC ?_
      intro W hW hS hf
      try simp only [Act.put, List.setIfInBounds_toArray, List.set_cons_succ, List.set_cons_zero]
      have H6 := Lib.hid (HL.out.trans hS)
      clear hW hf hS wk wa wn wt wm
      go_wp2_with fail
      go_ret
      exact ⟨v6, rfl, (H6.out.from BA.out hB).eq (by rw [HB1.out, ← HPRE.out]; simp) (by rw [HB1.out]; have := HPRE.out; have h2 := HPL2.out; rw [← this] at h2; simp only [List.length_append, beb_length] at h2 ⊢; omega)⟩
end Go.Proofs.Ytbmpjphemjponaa
