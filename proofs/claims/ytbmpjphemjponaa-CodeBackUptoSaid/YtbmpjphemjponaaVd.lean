/- slices.EqualFunc at nodes and at bodies, code.sameBody, code.Same. -/
import Derived.Test.YtbmpjphemjponaaVc
set_option linter.unusedSimpArgs false
set_option linter.unusedVariables false
namespace Go.Proofs.Ytbmpjphemjponaa
open Go.RowKit

def NdSmall (n : Nd) : Prop := n.code.length ≤ 4000000
set_option maxRecDepth 100000 in
set_option maxHeartbeats 4000000 in
theorem equal_nodes (l m : List Nd) (n1 n2 : Nat) (hn1 : n1 = l.length) (hn2 : n2 = m.length) (hl : n1 ≤ 4000000) (hl2 : n2 ≤ 4000000) (hw1 : ∀ i, i < n1 → NdSmall (l.getD i default)) (hw2 : ∀ i, i < n2 → NdSmall (m.getD i default)) (p p' : Slc) (B : Nat) (w : World) (h1 : NdsAt w B p l) (h2 : NdsAt w B p' m) (hB : B ≤ w.heap.size) :
    Calls Try.prog 64 #[.slice p.1 n1 p.2, .slice p'.1 n2 p'.2, .func (.func 65) #[] #[]] w fun e w' => e = .returned (.bool (eqL Nd.eq l m)) ∧ Below w.heap.size w w' := by
  obtain ⟨A, c⟩ := p
  obtain ⟨A', c'⟩ := p'
  have H1 := Lib.hid h1; have H2 := Lib.hid h2; have N1 := Lib.hid hn1; have N2 := Lib.hid hn2
  have HE := Lib.hid (eqL_iff (f := Nd.eq) (l := l) (m := m))
  have W1 := Lib.hid hw1; have W2 := Lib.hid hw2
  clear h1 h2 hn1 hn2 hw1 hw2
  generalize hr : eqL Nd.eq l m = res at *
  clear hr
  by_cases hne : n1 = n2
  rotate_left
  · have Hf : Hid (res = false) := Lib.hid (by
      cases res with
      | false => rfl
      | true => exact absurd (by rw [N1.out, N2.out]; exact (HE.out.1 rfl).1) hne)
    have d1 : ((n1 : Int) == n2) = false := by rw [beq_eq_false_iff_ne]; omega
    have d2 : decide ((n1 : Int) = n2) = false := decide_eq_false (by omega)
    go_enter Try.func64, Try.ntmps64
    go_wp2_with fail
    go_ret
    exact ⟨by rw [Hf.out]; rfl, Below.refl _ _⟩
  have HT : Hid ((∀ i, i < n1 → Nd.eq (l.getD i default) (m.getD i default) = true) → res = true) := Lib.hid (fun h => HE.out.2 ⟨by rw [← N1.out, ← N2.out]; exact hne, by rw [← N1.out]; exact h⟩)
  have HF : Hid (∀ i, i < n1 → Nd.eq (l.getD i default) (m.getD i default) = false → res = false) := Lib.hid (fun i hi h => by
    cases res with
    | false => rfl
    | true => have := (HE.out.1 rfl).2 i (by rw [← N1.out]; exact hi); rw [h] at this; cases this)
  have N2 := Lib.hid (hne.trans N2.out)
  subst hne
  clear HE
  go_enter Try.func64, Try.ntmps64
  go_wp2_with fail
  go_loopw [17] (fun iv wr => ∃ k : Nat, k ≤ n1 ∧ iv = .int .i64 k ∧ (∀ i, i < k → Nd.eq (l.getD i default) (m.getD i default) = true) ∧ Below w.heap.size w wr) (fun iv _ => n1 - (intOf iv).toNat)
  case atStart => exact ⟨0, by omega, rfl, fun i hi => by omega, Below.refl _ _⟩
  case round =>
    obtain ⟨k, hk, rfl, hall, hb⟩ := hrel
    have Hall := Lib.hid hall; have Hb := Lib.hid hb
    clear hall hb
    by_cases hlt : k < n1
    · obtain ⟨b, o, ep0, rfl, hb1, x0, x1, x2, x3, x4, g0⟩ := NdsAt.cells H1.out (show k < l.length by rw [← N1.out]; exact hlt)
      obtain ⟨b', o', eq0, rfl, hb2, y0, y1, y2, y3, y4, h0⟩ := NdsAt.cells H2.out (show k < m.length by rw [← N2.out]; exact hlt)
      have T : Hid (∀ W, Below wr.heap.size wr W → W.cell? ⟨b, o + k * 5, none⟩ = some (.slice ep0.1 (l.getD k default).code.length ep0.2) ∧ W.cell? ⟨b, o + k * 5 + 1, none⟩ = some (.int .i64 (l.getD k default).kind) ∧ W.cell? ⟨b, o + k * 5 + 2, none⟩ = some (.int .i64 (l.getD k default).arg) ∧ W.cell? ⟨b, o + k * 5 + 3, none⟩ = some (.int .i64 (l.getD k default).next) ∧ W.cell? ⟨b, o + k * 5 + 4, none⟩ = some (.int .i64 (l.getD k default).alt) ∧ W.cell? ⟨b', o' + k * 5, none⟩ = some (.slice eq0.1 (m.getD k default).code.length eq0.2) ∧ W.cell? ⟨b', o' + k * 5 + 1, none⟩ = some (.int .i64 (m.getD k default).kind) ∧ W.cell? ⟨b', o' + k * 5 + 2, none⟩ = some (.int .i64 (m.getD k default).arg) ∧ W.cell? ⟨b', o' + k * 5 + 3, none⟩ = some (.int .i64 (m.getD k default).next) ∧ W.cell? ⟨b', o' + k * 5 + 4, none⟩ = some (.int .i64 (m.getD k default).alt)) := Lib.hid (fun W hW => by
        have hW := Hb.out.trans (hW.mono Hb.out.size)
        exact ⟨(hW.cell (p := ⟨b, _, none⟩) (Nat.lt_of_lt_of_le hb1 hB)).trans x0, (hW.cell (p := ⟨b, _, none⟩) (Nat.lt_of_lt_of_le hb1 hB)).trans x1, (hW.cell (p := ⟨b, _, none⟩) (Nat.lt_of_lt_of_le hb1 hB)).trans x2, (hW.cell (p := ⟨b, _, none⟩) (Nat.lt_of_lt_of_le hb1 hB)).trans x3, (hW.cell (p := ⟨b, _, none⟩) (Nat.lt_of_lt_of_le hb1 hB)).trans x4, (hW.cell (p := ⟨b', _, none⟩) (Nat.lt_of_lt_of_le hb2 hB)).trans y0, (hW.cell (p := ⟨b', _, none⟩) (Nat.lt_of_lt_of_le hb2 hB)).trans y1, (hW.cell (p := ⟨b', _, none⟩) (Nat.lt_of_lt_of_le hb2 hB)).trans y2, (hW.cell (p := ⟨b', _, none⟩) (Nat.lt_of_lt_of_le hb2 hB)).trans y3, (hW.cell (p := ⟨b', _, none⟩) (Nat.lt_of_lt_of_le hb2 hB)).trans y4⟩)
      have HC : Hid (∀ W, Below wr.heap.size wr W → Calls Try.prog 65 #[ndv (l.getD k default) ep0, ndv (m.getD k default) eq0] W fun e w' => e = .returned (.bool (Nd.eq (l.getD k default) (m.getD k default))) ∧ Below W.heap.size W w') := Lib.hid (fun W hW => by
        have hW := Hb.out.trans (hW.mono Hb.out.size)
        exact same_node _ _ (W1.out k hlt) (W2.out k hlt) ep0 eq0 B W (g0.below (hW.mono hB)) (h0.below (hW.mono hB)) (Nat.le_trans hB hW.size))
      have HF1 := Lib.hid (HF.out k hlt)
      have HA1 : Hid (Nd.eq (l.getD k default) (m.getD k default) = true → ∀ i, i < k + 1 → Nd.eq (l.getD i default) (m.getD i default) = true) := Lib.hid (fun h i hi => by
        by_cases e : i = k
        · rw [e]; exact h
        · exact Hall.out i (by omega))
      clear x0 x1 x2 x3 x4 y0 y1 y2 y3 y4 g0 h0
      generalize Nd.eq (l.getD k default) (m.getD k default) = q at *
      generalize l.getD k default = a at *
      generalize m.getD k default = z at *
      unfold ndv at HC
      obtain ⟨c1, k1, a1, s1, t1⟩ := a
      obtain ⟨c2, k2, a2, s2, t2⟩ := z
      obtain ⟨P0, pc0⟩ := ep0
      obtain ⟨Q0, qc0⟩ := eq0
      dsimp only at HC T
      generalize c1.length = l1 at *
      generalize c2.length = l2 at *
      obtain ⟨u0, u1, u2, u3, u4, _, _, _, _, _⟩ := T.out wr (Below.refl _ _)
      go_upto_region 6 with (fail)
      clear u0 u1 u2 u3 u4
      have B1 := Lib.hid (below_alloc wr (.cells #[(.slice P0 l1 pc0), (.int .i64 k1), (.int .i64 a1), (.int .i64 s1), (.int .i64 t1)] 60))
      have X1 := Lib.hid (heap_alloc_new wr (.cells #[(.slice P0 l1 pc0), (.int .i64 k1), (.int .i64 a1), (.int .i64 s1), (.int .i64 t1)] 60))
      generalize wr.alloc (.cells #[(.slice P0 l1 pc0), (.int .i64 k1), (.int .i64 a1), (.int .i64 s1), (.int .i64 t1)] 60) = w1 at *
      obtain ⟨_, _, _, _, _, v0, v1, v2, v3, v4⟩ := T.out w1 B1.out
      go_upto_region 7 with (fail)
      clear v0 v1 v2 v3 v4
      have B2 := Lib.hid (below_alloc w1 (.cells #[(.slice Q0 l2 qc0), (.int .i64 k2), (.int .i64 a2), (.int .i64 s2), (.int .i64 t2)] 60))
      have X2 := Lib.hid (heap_alloc_new w1 (.cells #[(.slice Q0 l2 qc0), (.int .i64 k2), (.int .i64 a2), (.int .i64 s2), (.int .i64 t2)] 60))
      generalize w1.alloc (.cells #[(.slice Q0 l2 qc0), (.int .i64 k2), (.int .i64 a2), (.int .i64 s2), (.int .i64 t2)] 60) = w2 at *
      have X1 := Lib.hid ((B2.out.block _ (lt_blk X1.out)).trans X1.out)
      have B3 := Lib.hid (B1.out.trans (B2.out.mono B1.out.size))
      obtain ⟨u0, u1, u2, u3, u4, v0, v1, v2, v3, v4⟩ : w2.cell? ⟨wr.heap.size, 0, none⟩ = some (.slice P0 l1 pc0) ∧ w2.cell? ⟨wr.heap.size, 1, none⟩ = some (.int .i64 k1) ∧ w2.cell? ⟨wr.heap.size, 2, none⟩ = some (.int .i64 a1) ∧ w2.cell? ⟨wr.heap.size, 3, none⟩ = some (.int .i64 s1) ∧ w2.cell? ⟨wr.heap.size, 4, none⟩ = some (.int .i64 t1) ∧ w2.cell? ⟨w1.heap.size, 0, none⟩ = some (.slice Q0 l2 qc0) ∧ w2.cell? ⟨w1.heap.size, 1, none⟩ = some (.int .i64 k2) ∧ w2.cell? ⟨w1.heap.size, 2, none⟩ = some (.int .i64 a2) ∧ w2.cell? ⟨w1.heap.size, 3, none⟩ = some (.int .i64 s2) ∧ w2.cell? ⟨w1.heap.size, 4, none⟩ = some (.int .i64 t2) := ⟨by rw [cell_blk (T := 60) X1.out]; rfl, by rw [cell_blk (T := 60) X1.out]; rfl, by rw [cell_blk (T := 60) X1.out]; rfl, by rw [cell_blk (T := 60) X1.out]; rfl, by rw [cell_blk (T := 60) X1.out]; rfl, by rw [cell_blk (T := 60) X2.out]; rfl, by rw [cell_blk (T := 60) X2.out]; rfl, by rw [cell_blk (T := 60) X2.out]; rfl, by rw [cell_blk (T := 60) X2.out]; rfl, by rw [cell_blk (T := 60) X2.out]; rfl⟩
      go_wp2_with fail
      refine (HC.out w2 B3.out).mono ?_
      rintro e w3 ⟨rfl, hb3⟩
      have HW := Lib.hid (Hb.out.trans ((B3.out.trans (hb3.mono B3.out.size)).mono Hb.out.size))
      clear hb3 B1 B2 B3 X1 X2 HC T u0 u1 u2 u3 u4 v0 v1 v2 v3 v4
      cases q
      · have HN := Lib.hid (HF1.out rfl)
        go_wp2_with fail
        go_ret
        exact ⟨by rw [HN.out]; rfl, HW.out⟩
      · have HN := Lib.hid (HA1.out rfl)
        go_wp2_with fail
        go_roundw
        case rel => exact ⟨k + 1, by omega, by go_num, HN.out, HW.out⟩
        case measure => simp [intOf]; omega
    · obtain rfl : k = n1 := by omega
      have HN := Lib.hid (HT.out Hall.out)
      go_wp2_with fail
      go_ret
      exact ⟨by rw [HN.out]; rfl, Hb.out⟩
def BdSmall (x : Bd) : Prop := x.locals.length ≤ 4000000 ∧ x.nodes.length ≤ 4000000 ∧ ∀ i, i < x.nodes.length → NdSmall (x.nodes.getD i default)
def CdSmall (x : Cd) : Prop := x.shared.length ≤ 4000000 ∧ x.bodies.length ≤ 4000000 ∧ ∀ i, i < x.bodies.length → BdSmall (x.bodies.getD i default)
def bdv (x : Bd) (p q : Slc) : Value := .agg #[.slice p.1 x.locals.length p.2, .int .i64 x.stack, .slice q.1 x.nodes.length q.2]
def cdv (x : Cd) (p q : Slc) : Value := .agg #[.slice p.1 x.shared.length p.2, .int .i64 x.mutexes, .slice q.1 x.bodies.length q.2]
set_option maxRecDepth 100000 in
set_option maxHeartbeats 4000000 in
theorem same_body (n m : Bd) (s1 : BdSmall n) (s2 : BdSmall m) (p p2 q q2 : Slc) (B : Nat) (w : World) (h1 : VlsAt w B p n.locals) (h2 : NdsAt w B p2 n.nodes) (h3 : VlsAt w B q m.locals) (h4 : NdsAt w B q2 m.nodes) (hB : B ≤ w.heap.size) :
    Calls Try.prog 33 #[bdv n p p2, bdv m q q2] w fun e w' => e = .returned (.bool (Bd.eq n m)) ∧ Below w.heap.size w w' := by
  have HE := Lib.hid (fun W (h : Below w.heap.size w W) => equal_values n.locals m.locals n.locals.length m.locals.length rfl rfl s1.1 s2.1 p q B W (h1.below (h.mono hB)) (h3.below (h.mono hB)) (Nat.le_trans hB h.size))
  have HE2 := Lib.hid (fun W (h : Below w.heap.size w W) => equal_nodes n.nodes m.nodes n.nodes.length m.nodes.length rfl rfl s1.2.1 s2.2.1 s1.2.2 s2.2.2 p2 q2 B W (h2.below (h.mono hB)) (h4.below (h.mono hB)) (Nat.le_trans hB h.size))
  have HN : Hid (Bd.eq n m = (eqL Vl.eq n.locals m.locals && (decide (n.stack = m.stack) && eqL Nd.eq n.nodes m.nodes))) := Lib.hid rfl
  have L1 := s1.1; have L2 := s2.1; have L3 := s1.2.1; have L4 := s2.2.1
  unfold bdv
  generalize Bd.eq n m = res at *
  generalize eqL Vl.eq n.locals m.locals = r at *
  generalize eqL Nd.eq n.nodes m.nodes = r2 at *
  clear h1 h2 h3 h4 s1 s2
  obtain ⟨c1, k1, a1⟩ := n
  obtain ⟨c2, k2, a2⟩ := m
  dsimp only at *
  generalize c1.length = l1 at *
  generalize c2.length = l2 at *
  generalize a1.length = l3 at *
  generalize a2.length = l4 at *
  generalize hd0 : decide (k1 = k2) = e0 at *
  have f0 : (k1 == k2) = e0 := hd0
  clear hd0
  go_enter Try.func33, Try.ntmps33
  go_wp2_with fail
  refine (HE.out _ (((Below.refl _ _).alloc (Nat.le_refl _) _).alloc (by simp) _)).mono ?_
  rintro e w1 ⟨rfl, hb1⟩
  obtain ⟨hc, hb⟩ := two_boxes w1 hb1
  have HB := Lib.hid hb
  have z := fun j => (hc w1 (Below.refl _ _) j)
  have u1 := (z 1).1; have u2 := (z 2).1
  have v1 := (z 1).2; have v2 := (z 2).2
  simp only [List.getElem?_toArray, List.getElem?_cons_succ, List.getElem?_cons_zero] at u1 u2 v1 v2
  clear z hc hb hb1 HE
  cases r
  · go_wp2_with fail
    go_ret
    exact ⟨ret_bool (by rw [HN.out]; rfl), HB.out⟩
  · cases e0
    · go_wp2_with fail
      go_ret
      exact ⟨ret_bool (by rw [HN.out]; rfl), HB.out⟩
    · go_wp2_with fail
      refine (HE2.out _ HB.out).mono ?_
      rintro e w2 ⟨rfl, hb2⟩
      have HB2 := Lib.hid (HB.out.trans (hb2.mono HB.out.size))
      clear hb2 HE2
      go_wp2_with fail
      go_ret
      exact ⟨ret_bool (by rw [HN.out]; first | rfl | (cases r2 <;> rfl)), HB2.out⟩
set_option maxRecDepth 100000 in
set_option maxHeartbeats 4000000 in
theorem equal_bodies (l m : List Bd) (n1 n2 : Nat) (hn1 : n1 = l.length) (hn2 : n2 = m.length) (hl : n1 ≤ 4000000) (hl2 : n2 ≤ 4000000) (hw1 : ∀ i, i < n1 → BdSmall (l.getD i default)) (hw2 : ∀ i, i < n2 → BdSmall (m.getD i default)) (p p' : Slc) (B : Nat) (w : World) (h1 : BdsAt w B p l) (h2 : BdsAt w B p' m) (hB : B ≤ w.heap.size) :
    Calls Try.prog 32 #[.slice p.1 n1 p.2, .slice p'.1 n2 p'.2, .func (.func 33) #[] #[]] w fun e w' => e = .returned (.bool (eqL Bd.eq l m)) ∧ Below w.heap.size w w' := by
  obtain ⟨A, c⟩ := p
  obtain ⟨A', c'⟩ := p'
  have H1 := Lib.hid h1; have H2 := Lib.hid h2; have N1 := Lib.hid hn1; have N2 := Lib.hid hn2
  have HE := Lib.hid (eqL_iff (f := Bd.eq) (l := l) (m := m))
  have W1 := Lib.hid hw1; have W2 := Lib.hid hw2
  clear h1 h2 hn1 hn2 hw1 hw2
  generalize hr : eqL Bd.eq l m = res at *
  clear hr
  by_cases hne : n1 = n2
  rotate_left
  · have Hf : Hid (res = false) := Lib.hid (by
      cases res with
      | false => rfl
      | true => exact absurd (by rw [N1.out, N2.out]; exact (HE.out.1 rfl).1) hne)
    have d1 : ((n1 : Int) == n2) = false := by rw [beq_eq_false_iff_ne]; omega
    have d2 : decide ((n1 : Int) = n2) = false := decide_eq_false (by omega)
    go_enter Try.func32, Try.ntmps32
    go_wp2_with fail
    go_ret
    exact ⟨by rw [Hf.out]; rfl, Below.refl _ _⟩
  have HT : Hid ((∀ i, i < n1 → Bd.eq (l.getD i default) (m.getD i default) = true) → res = true) := Lib.hid (fun h => HE.out.2 ⟨by rw [← N1.out, ← N2.out]; exact hne, by rw [← N1.out]; exact h⟩)
  have HF : Hid (∀ i, i < n1 → Bd.eq (l.getD i default) (m.getD i default) = false → res = false) := Lib.hid (fun i hi h => by
    cases res with
    | false => rfl
    | true => have := (HE.out.1 rfl).2 i (by rw [← N1.out]; exact hi); rw [h] at this; cases this)
  have N2 := Lib.hid (hne.trans N2.out)
  subst hne
  clear HE
  go_enter Try.func32, Try.ntmps32
  go_wp2_with fail
  go_loopw [17] (fun iv wr => ∃ k : Nat, k ≤ n1 ∧ iv = .int .i64 k ∧ (∀ i, i < k → Bd.eq (l.getD i default) (m.getD i default) = true) ∧ Below w.heap.size w wr) (fun iv _ => n1 - (intOf iv).toNat)
  case atStart => exact ⟨0, by omega, rfl, fun i hi => by omega, Below.refl _ _⟩
  case round =>
    obtain ⟨k, hk, rfl, hall, hb⟩ := hrel
    have Hall := Lib.hid hall; have Hb := Lib.hid hb
    clear hall hb
    by_cases hlt : k < n1
    · obtain ⟨b, o, ep0, ep1, rfl, hb1, x0, x1, x2, g0, g1⟩ := BdsAt.cells H1.out (show k < l.length by rw [← N1.out]; exact hlt)
      obtain ⟨b', o', eq0, eq1, rfl, hb2, y0, y1, y2, h0, h1⟩ := BdsAt.cells H2.out (show k < m.length by rw [← N2.out]; exact hlt)
      have T : Hid (∀ W, Below wr.heap.size wr W → W.cell? ⟨b, o + k * 3, none⟩ = some (.slice ep0.1 (l.getD k default).locals.length ep0.2) ∧ W.cell? ⟨b, o + k * 3 + 1, none⟩ = some (.int .i64 (l.getD k default).stack) ∧ W.cell? ⟨b, o + k * 3 + 2, none⟩ = some (.slice ep1.1 (l.getD k default).nodes.length ep1.2) ∧ W.cell? ⟨b', o' + k * 3, none⟩ = some (.slice eq0.1 (m.getD k default).locals.length eq0.2) ∧ W.cell? ⟨b', o' + k * 3 + 1, none⟩ = some (.int .i64 (m.getD k default).stack) ∧ W.cell? ⟨b', o' + k * 3 + 2, none⟩ = some (.slice eq1.1 (m.getD k default).nodes.length eq1.2)) := Lib.hid (fun W hW => by
        have hW := Hb.out.trans (hW.mono Hb.out.size)
        exact ⟨(hW.cell (p := ⟨b, _, none⟩) (Nat.lt_of_lt_of_le hb1 hB)).trans x0, (hW.cell (p := ⟨b, _, none⟩) (Nat.lt_of_lt_of_le hb1 hB)).trans x1, (hW.cell (p := ⟨b, _, none⟩) (Nat.lt_of_lt_of_le hb1 hB)).trans x2, (hW.cell (p := ⟨b', _, none⟩) (Nat.lt_of_lt_of_le hb2 hB)).trans y0, (hW.cell (p := ⟨b', _, none⟩) (Nat.lt_of_lt_of_le hb2 hB)).trans y1, (hW.cell (p := ⟨b', _, none⟩) (Nat.lt_of_lt_of_le hb2 hB)).trans y2⟩)
      have HC : Hid (∀ W, Below wr.heap.size wr W → Calls Try.prog 33 #[bdv (l.getD k default) ep0 ep1, bdv (m.getD k default) eq0 eq1] W fun e w' => e = .returned (.bool (Bd.eq (l.getD k default) (m.getD k default))) ∧ Below W.heap.size W w') := Lib.hid (fun W hW => by
        have hW := Hb.out.trans (hW.mono Hb.out.size)
        exact same_body _ _ (W1.out k hlt) (W2.out k hlt) ep0 ep1 eq0 eq1 B W (g0.below (hW.mono hB)) (g1.below (hW.mono hB)) (h0.below (hW.mono hB)) (h1.below (hW.mono hB)) (Nat.le_trans hB hW.size))
      have HF1 := Lib.hid (HF.out k hlt)
      have HA1 : Hid (Bd.eq (l.getD k default) (m.getD k default) = true → ∀ i, i < k + 1 → Bd.eq (l.getD i default) (m.getD i default) = true) := Lib.hid (fun h i hi => by
        by_cases e : i = k
        · rw [e]; exact h
        · exact Hall.out i (by omega))
      clear x0 x1 x2 y0 y1 y2 g0 g1 h0 h1
      generalize Bd.eq (l.getD k default) (m.getD k default) = q at *
      generalize l.getD k default = a at *
      generalize m.getD k default = z at *
      unfold bdv at HC
      obtain ⟨c1, k1, a1⟩ := a
      obtain ⟨c2, k2, a2⟩ := z
      obtain ⟨P0, pc0⟩ := ep0
      obtain ⟨Q0, qc0⟩ := eq0
      obtain ⟨P1, pc1⟩ := ep1
      obtain ⟨Q1, qc1⟩ := eq1
      dsimp only at HC T
      generalize c1.length = l1 at *
      generalize c2.length = l2 at *
      generalize a1.length = l3 at *
      generalize a2.length = l4 at *
      obtain ⟨u0, u1, u2, _, _, _⟩ := T.out wr (Below.refl _ _)
      go_upto_region 6 with (fail)
      clear u0 u1 u2
      have B1 := Lib.hid (below_alloc wr (.cells #[(.slice P0 l1 pc0), (.int .i64 k1), (.slice P1 l3 pc1)] 57))
      have X1 := Lib.hid (heap_alloc_new wr (.cells #[(.slice P0 l1 pc0), (.int .i64 k1), (.slice P1 l3 pc1)] 57))
      generalize wr.alloc (.cells #[(.slice P0 l1 pc0), (.int .i64 k1), (.slice P1 l3 pc1)] 57) = w1 at *
      obtain ⟨_, _, _, v0, v1, v2⟩ := T.out w1 B1.out
      go_upto_region 7 with (fail)
      clear v0 v1 v2
      have B2 := Lib.hid (below_alloc w1 (.cells #[(.slice Q0 l2 qc0), (.int .i64 k2), (.slice Q1 l4 qc1)] 57))
      have X2 := Lib.hid (heap_alloc_new w1 (.cells #[(.slice Q0 l2 qc0), (.int .i64 k2), (.slice Q1 l4 qc1)] 57))
      generalize w1.alloc (.cells #[(.slice Q0 l2 qc0), (.int .i64 k2), (.slice Q1 l4 qc1)] 57) = w2 at *
      have X1 := Lib.hid ((B2.out.block _ (lt_blk X1.out)).trans X1.out)
      have B3 := Lib.hid (B1.out.trans (B2.out.mono B1.out.size))
      obtain ⟨u0, u1, u2, v0, v1, v2⟩ : w2.cell? ⟨wr.heap.size, 0, none⟩ = some (.slice P0 l1 pc0) ∧ w2.cell? ⟨wr.heap.size, 1, none⟩ = some (.int .i64 k1) ∧ w2.cell? ⟨wr.heap.size, 2, none⟩ = some (.slice P1 l3 pc1) ∧ w2.cell? ⟨w1.heap.size, 0, none⟩ = some (.slice Q0 l2 qc0) ∧ w2.cell? ⟨w1.heap.size, 1, none⟩ = some (.int .i64 k2) ∧ w2.cell? ⟨w1.heap.size, 2, none⟩ = some (.slice Q1 l4 qc1) := ⟨by rw [cell_blk (T := 57) X1.out]; rfl, by rw [cell_blk (T := 57) X1.out]; rfl, by rw [cell_blk (T := 57) X1.out]; rfl, by rw [cell_blk (T := 57) X2.out]; rfl, by rw [cell_blk (T := 57) X2.out]; rfl, by rw [cell_blk (T := 57) X2.out]; rfl⟩
      go_wp2_with fail
      refine (HC.out w2 B3.out).mono ?_
      rintro e w3 ⟨rfl, hb3⟩
      have HW := Lib.hid (Hb.out.trans ((B3.out.trans (hb3.mono B3.out.size)).mono Hb.out.size))
      clear hb3 B1 B2 B3 X1 X2 HC T u0 u1 u2 v0 v1 v2
      cases q
      · have HN := Lib.hid (HF1.out rfl)
        go_wp2_with fail
        go_ret
        exact ⟨by rw [HN.out]; rfl, HW.out⟩
      · have HN := Lib.hid (HA1.out rfl)
        go_wp2_with fail
        go_roundw
        case rel => exact ⟨k + 1, by omega, by go_num, HN.out, HW.out⟩
        case measure => simp [intOf]; omega
    · obtain rfl : k = n1 := by omega
      have HN := Lib.hid (HT.out Hall.out)
      go_wp2_with fail
      go_ret
      exact ⟨by rw [HN.out]; rfl, Hb.out⟩
set_option maxRecDepth 100000 in
set_option maxHeartbeats 4000000 in
theorem code_same (n m : Cd) (s1 : CdSmall n) (s2 : CdSmall m) (p p2 q q2 : Slc) (B : Nat) (w : World) (h1 : VlsAt w B p n.shared) (h2 : BdsAt w B p2 n.bodies) (h3 : VlsAt w B q m.shared) (h4 : BdsAt w B q2 m.bodies) (hB : B ≤ w.heap.size) :
    Calls Try.prog 10 #[cdv n p p2, cdv m q q2] w fun e w' => e = .returned (.bool (Cd.eq n m)) ∧ Below w.heap.size w w' := by
  have HE := Lib.hid (fun W (h : Below w.heap.size w W) => equal_values n.shared m.shared n.shared.length m.shared.length rfl rfl s1.1 s2.1 p q B W (h1.below (h.mono hB)) (h3.below (h.mono hB)) (Nat.le_trans hB h.size))
  have HE2 := Lib.hid (fun W (h : Below w.heap.size w W) => equal_bodies n.bodies m.bodies n.bodies.length m.bodies.length rfl rfl s1.2.1 s2.2.1 s1.2.2 s2.2.2 p2 q2 B W (h2.below (h.mono hB)) (h4.below (h.mono hB)) (Nat.le_trans hB h.size))
  have HN : Hid (Cd.eq n m = (eqL Vl.eq n.shared m.shared && (decide (n.mutexes = m.mutexes) && eqL Bd.eq n.bodies m.bodies))) := Lib.hid rfl
  have L1 := s1.1; have L2 := s2.1; have L3 := s1.2.1; have L4 := s2.2.1
  unfold cdv
  generalize Cd.eq n m = res at *
  generalize eqL Vl.eq n.shared m.shared = r at *
  generalize eqL Bd.eq n.bodies m.bodies = r2 at *
  clear h1 h2 h3 h4 s1 s2
  obtain ⟨c1, k1, a1⟩ := n
  obtain ⟨c2, k2, a2⟩ := m
  dsimp only at *
  generalize c1.length = l1 at *
  generalize c2.length = l2 at *
  generalize a1.length = l3 at *
  generalize a2.length = l4 at *
  generalize hd0 : decide (k1 = k2) = e0 at *
  have f0 : (k1 == k2) = e0 := hd0
  clear hd0
  go_enter Try.func10, Try.ntmps10
  go_wp2_with fail
  refine (HE.out _ (((Below.refl _ _).alloc (Nat.le_refl _) _).alloc (by simp) _)).mono ?_
  rintro e w1 ⟨rfl, hb1⟩
  obtain ⟨hc, hb⟩ := two_boxes w1 hb1
  have HB := Lib.hid hb
  have z := fun j => (hc w1 (Below.refl _ _) j)
  have u1 := (z 1).1; have u2 := (z 2).1
  have v1 := (z 1).2; have v2 := (z 2).2
  simp only [List.getElem?_toArray, List.getElem?_cons_succ, List.getElem?_cons_zero] at u1 u2 v1 v2
  clear z hc hb hb1 HE
  cases r
  · go_wp2_with fail
    go_ret
    exact ⟨ret_bool (by rw [HN.out]; rfl), HB.out⟩
  · cases e0
    · go_wp2_with fail
      go_ret
      exact ⟨ret_bool (by rw [HN.out]; rfl), HB.out⟩
    · go_wp2_with fail
      refine (HE2.out _ HB.out).mono ?_
      rintro e w2 ⟨rfl, hb2⟩
      have HB2 := Lib.hid (HB.out.trans (hb2.mono HB.out.size))
      clear hb2 HE2
      go_wp2_with fail
      go_ret
      exact ⟨ret_bool (by rw [HN.out]; first | rfl | (cases r2 <;> rfl)), HB2.out⟩
end Go.Proofs.Ytbmpjphemjponaa
