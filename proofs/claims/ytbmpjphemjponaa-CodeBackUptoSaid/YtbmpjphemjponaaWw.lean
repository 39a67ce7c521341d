/- what has been laid is read, and what has been read is laid. Plain. -/
import Derived.Test.YtbmpjphemjponaaWq
import Derived.Test.YtbmpjphemjponaaWk
set_option linter.unusedSimpArgs false
set_option linter.unusedVariables false
namespace Go.Proofs.Ytbmpjphemjponaa
open Go.RowKit

theorem rdN_beb (k n : Nat) (t : List UInt8) (h : n < 256 ^ k) : rdN k (beb k n ++ t, false) = (n, (t, false)) := by
  rw [rdN_ok rfl (by simp [beb_length])]
  have h1 : (beb k n ++ t).take k = beb k n := by rw [List.take_append_of_le_length (by rw [beb_length]; exact Nat.le_refl _), List.take_of_length_le (by rw [beb_length]; exact Nat.le_refl _)]
  have h2 : (beb k n ++ t).drop k = t := by rw [List.drop_append_of_le_length (by rw [beb_length]; exact Nat.le_refl _), List.drop_eq_nil_of_le (by rw [beb_length]; exact Nat.le_refl _)]; rfl
  dsimp only
  rw [h1, h2, num_beb k n h]
theorem rdV_lay (v : Vl) (h : VlIn v) (t : List UInt8) : rdV (vlB v ++ t, false) = (v, (t, false)) := by
  obtain ⟨⟨h1, h2⟩, h3, h4⟩ := h
  have e : (256 : Nat) ^ 8 = 18446744073709551616 := by decide
  have e1 := rdN_beb 1 v.t.toNat (beb 8 v.b.toNat ++ t) (by omega)
  have e2 := rdN_beb 8 v.b.toNat t (by omega)
  unfold rdV vlB
  rw [List.append_assoc, e1]
  dsimp only
  rw [e2]
  obtain ⟨vt, vb⟩ := v
  dsimp only at *
  rw [Int.toNat_of_nonneg h1, Int.toNat_of_nonneg h3]
theorem rdL_lay {α : Type} (f : Rst → α × Rst) (enc : α → List UInt8) : ∀ (l : List α) (t : List UInt8) (acc : List α), (∀ x ∈ l, ∀ t, f (enc x ++ t, false) = (x, (t, false))) → rdL f l.length (l.flatMap enc ++ t, false) acc = (acc ++ l, (t, false))
  | [], t, acc, _ => by simp [rdL]
  | a :: l, t, acc, h => by
    have ha := h a (by simp) (l.flatMap enc ++ t)
    have ih := rdL_lay f enc l t (acc ++ [a]) (fun x hx => h x (by simp [hx]))
    rw [List.length_cons, rdL, List.flatMap_cons, List.append_assoc, if_neg (by simp), ha]
    dsimp only
    rw [ih, List.append_assoc]
    rfl
theorem mem_at {α : Type} [Inhabited α] {l : List α} {x : α} (h : x ∈ l) : ∃ i, i < l.length ∧ l.getD i default = x := by
  obtain ⟨i, hi, rfl⟩ := List.getElem_of_mem h
  exact ⟨i, hi, by rw [List.getD_eq_getElem?_getD, List.getElem?_eq_getElem hi]; rfl⟩
theorem rdVs_lay (l : List Vl) (h : VsIn l) (hl : l.length ≤ 255) (t : List UInt8) : rdVs ((beb 1 l.length ++ l.flatMap vlB) ++ t, false) = (l, (t, false)) := by
  unfold rdVs
  rw [List.append_assoc, rdN_beb 1 l.length _ (by omega)]
  dsimp only
  rw [rdL_lay rdV vlB l t [] (fun x hx t => by
    obtain ⟨i, hi, rfl⟩ := mem_at hx
    exact rdV_lay _ (h i hi) t)]
  rfl
theorem inOk_zero {ns nl : Int} {i : Ins} (h : inOk ns nl i = true) (hne : i.op ≠ 1) : i.l = Vl.zero := by
  have key : l0 i.l = true → i.l = Vl.zero := fun h => by
    unfold l0 at h
    simp only [Bool.and_eq_true, decide_eq_true_eq] at h
    generalize i.l = v at *
    obtain ⟨t, b⟩ := v
    obtain ⟨rfl, rfl⟩ := h
    rfl
  unfold inOk at h
  rw [if_neg hne] at h
  split at h
  · simp only [Bool.and_eq_true] at h; exact key h.2
  · split at h
    · simp only [Bool.and_eq_true] at h; exact key h.2
    · split at h
      · simp only [Bool.and_eq_true] at h; exact key h.2
      · cases h
theorem inOk_small {ns nl : Int} {i : Ins} (h : inOk ns nl i = true) (h1 : ns ≤ 32) (h2 : nl ≤ 16) : 0 ≤ i.arg ∧ i.arg < 256 := by
  unfold inOk wi at h
  split at h
  · simp only [Bool.and_eq_true, decide_eq_true_eq] at h; omega
  · split at h
    · simp only [Bool.and_eq_true, decide_eq_true_eq] at h; omega
    · split at h
      · simp only [Bool.and_eq_true, decide_eq_true_eq] at h; omega
      · split at h
        · simp only [Bool.and_eq_true, decide_eq_true_eq] at h; omega
        · cases h
theorem rdI_lay (i : Ins) (h : InIn i) {ns nl : Int} (hok : inOk ns nl i = true) (h1 : ns ≤ 32) (h2 : nl ≤ 16) (t : List UInt8) : rdI (inB i ++ t, false) = (i, (t, false)) := by
  obtain ⟨⟨o1, o2⟩, hv⟩ := h
  obtain ⟨a1, a2⟩ := inOk_small hok h1 h2
  have hz := inOk_zero hok
  obtain ⟨op, ag, l⟩ := i
  dsimp only at *
  unfold inB
  dsimp only
  by_cases g : op = 1
  · rw [if_pos g, List.append_assoc, List.append_assoc]
    have e1 := rdN_beb 1 op.toNat (beb 1 ag.toNat ++ (vlB l ++ t)) (by omega)
    have e2 := rdN_beb 1 ag.toNat (vlB l ++ t) (by omega)
    rw [rdI_lit' e1 (by omega), e1]
    dsimp only
    rw [e2]
    dsimp only
    rw [rdV_lay l hv t, Int.toNat_of_nonneg o1, Int.toNat_of_nonneg a1]
  · rw [if_neg g, List.append_nil, List.append_assoc]
    have e1 := rdN_beb 1 op.toNat (beb 1 ag.toNat ++ t) (by omega)
    have e2 := rdN_beb 1 ag.toNat t (by omega)
    rw [rdI_not' e1 (by omega), e1]
    dsimp only
    rw [e2, hz g, Int.toNat_of_nonneg o1, Int.toNat_of_nonneg a1]
where
  rdI_lit' {s : Rst} {r : Nat × Rst} (e : rdN 1 s = r) (h : r.1 = 1) : rdI s = (⟨(rdN 1 s).1, (rdN 1 (rdN 1 s).2).1, (rdV (rdN 1 (rdN 1 s).2).2).1⟩, (rdV (rdN 1 (rdN 1 s).2).2).2) := if_pos (by rw [e]; exact h)
  rdI_not' {s : Rst} {r : Nat × Rst} (e : rdN 1 s = r) (h : r.1 ≠ 1) : rdI s = (⟨(rdN 1 s).1, (rdN 1 (rdN 1 s).2).1, Vl.zero⟩, (rdN 1 (rdN 1 s).2).2) := if_neg (by rw [e]; exact h)
theorem ndOk_small {ns nl nn mt : Int} {n : Nd} (h : ndOk ns nl nn mt n = true) (h1 : ns ≤ 32) (h2 : nl ≤ 16) (h3 : nn ≤ 1024) (h4 : mt ≤ 16) :
    (1 ≤ n.kind ∧ n.kind ≤ 7) ∧ (0 ≤ n.arg ∧ n.arg < 256) ∧ (0 ≤ n.next ∧ n.next < 65536) ∧ (0 ≤ n.alt ∧ n.alt < 65536) := by
  unfold ndOk ndArg wi at h
  simp only [Bool.and_eq_true, decide_eq_true_eq] at h
  obtain ⟨hk, ha, hn, hal⟩ := h
  refine ⟨hk, ?_, by omega, ?_⟩
  · split at ha
    · simp only [Bool.and_eq_true, decide_eq_true_eq] at ha; omega
    · split at ha
      · simp only [Bool.and_eq_true, decide_eq_true_eq] at ha; omega
      · split at ha
        · simp only [Bool.and_eq_true, decide_eq_true_eq] at ha; omega
        · simp only [decide_eq_true_eq] at ha; omega
  · split at hal
    · simp only [Bool.and_eq_true, decide_eq_true_eq] at hal; omega
    · simp only [decide_eq_true_eq] at hal; omega
theorem rdNd_lay (n : Nd) (hi : IsIn n.code) {ns nl nn mt : Int} (hf : ndFit ns nl nn mt n = true) (h1 : ns ≤ 32) (h2 : nl ≤ 16) (h3 : nn ≤ 1024) (h4 : mt ≤ 16) (hl : n.code.length ≤ 8192) (t : List UInt8) : rdNd (ndB n ++ t, false) = (n, (t, false)) := by
  unfold ndFit at hf
  simp only [Bool.and_eq_true] at hf
  obtain ⟨⟨k1, k2⟩, ⟨a1, a2⟩, ⟨x1, x2⟩, y1, y2⟩ := ndOk_small hf.2 h1 h2 h3 h4
  have e0 := rdN_beb 2 n.code.length (n.code.flatMap inB ++ (beb 1 n.kind.toNat ++ (beb 1 n.arg.toNat ++ (beb 2 n.next.toNat ++ (beb 2 n.alt.toNat ++ t))))) (by omega)
  have e1 := rdL_lay rdI inB n.code (beb 1 n.kind.toNat ++ (beb 1 n.arg.toNat ++ (beb 2 n.next.toNat ++ (beb 2 n.alt.toNat ++ t)))) [] (fun x hx t => by
    obtain ⟨i, hi', rfl⟩ := mem_at hx
    exact rdI_lay _ (hi i hi') (all_at hf.1 hi') h1 h2 t)
  have e2 := rdN_beb 1 n.kind.toNat (beb 1 n.arg.toNat ++ (beb 2 n.next.toNat ++ (beb 2 n.alt.toNat ++ t))) (by omega)
  have e3 := rdN_beb 1 n.arg.toNat (beb 2 n.next.toNat ++ (beb 2 n.alt.toNat ++ t)) (by omega)
  have e4 := rdN_beb 2 n.next.toNat (beb 2 n.alt.toNat ++ t) (by omega)
  have e5 := rdN_beb 2 n.alt.toNat t (by omega)
  unfold rdNd ndB
  simp only [List.append_assoc, e0, e1, e2, e3, e4, e5, List.nil_append]
  obtain ⟨cd, k, a, x, y⟩ := n
  dsimp only at *
  rw [Int.toNat_of_nonneg (show 0 ≤ k by omega), Int.toNat_of_nonneg a1, Int.toNat_of_nonneg x1, Int.toNat_of_nonneg y1]
theorem rdBd_lay (b : Bd) (hi : BdIn b) {ns mt : Int} (hf : bdFit ns mt b = true) (h1 : ns ≤ 32) (h4 : mt ≤ 16) (hl : bdLong b = false) (t : List UInt8) : rdBd (bdB b ++ t, false) = (b, (t, false)) := by
  unfold bdFit at hf
  simp only [Bool.and_eq_true, decide_eq_true_eq] at hf
  obtain ⟨f1, f2, f3, f4⟩ := hf
  unfold bdLong at hl
  simp only [Bool.or_eq_false_iff, decide_eq_false_iff_not] at hl
  obtain ⟨l1, l2, l3⟩ := hl
  rw [List.any_eq_false] at l3
  have e0 := rdVs_lay b.locals hi.1 (by omega) (beb 1 b.stack.toNat ++ (beb 2 b.nodes.length ++ (b.nodes.flatMap ndB ++ t)))
  have e1 := rdN_beb 1 b.stack.toNat (beb 2 b.nodes.length ++ (b.nodes.flatMap ndB ++ t)) (by omega)
  have e2 := rdN_beb 2 b.nodes.length (b.nodes.flatMap ndB ++ t) (by omega)
  have e3 := rdL_lay rdNd ndB b.nodes t [] (fun x hx t => by
    have hx3 := l3 x hx
    obtain ⟨i, hi', rfl⟩ := mem_at hx
    exact rdNd_lay _ (hi.2 i hi') (all_at f4 hi') h1 (by omega) (by omega) h4 (by simpa using hx3) t)
  unfold rdBd bdB
  simp only [List.append_assoc] at e0 ⊢
  simp only [e0, e1, e2, e3, List.nil_append]
  obtain ⟨lo, st, ns⟩ := b
  dsimp only at *
  rw [Int.toNat_of_nonneg f2]
theorem rdCd_lay (c : Cd) (hi : CdIn c) (hc : chk c = 0) (t : List UInt8) : rdCd (cdB c ++ t, false) = (c, (t, false)) := by
  obtain ⟨hl, hf, -, -⟩ := chk_ok hc
  unfold cdFit at hf
  simp only [Bool.and_eq_true, decide_eq_true_eq] at hf
  obtain ⟨f1, f2, f3, f4⟩ := hf
  unfold cdLong at hl
  simp only [Bool.or_eq_false_iff, decide_eq_false_iff_not] at hl
  obtain ⟨l0, l1, l2, l3⟩ := hl
  rw [List.any_eq_false] at l3
  have e0 := rdVs_lay c.shared hi.1 (by omega) (beb 1 c.mutexes.toNat ++ (beb 1 c.bodies.length ++ (c.bodies.flatMap bdB ++ t)))
  have e1 := rdN_beb 1 c.mutexes.toNat (beb 1 c.bodies.length ++ (c.bodies.flatMap bdB ++ t)) (by omega)
  have e2 := rdN_beb 1 c.bodies.length (c.bodies.flatMap bdB ++ t) (by omega)
  have e3 := rdL_lay rdBd bdB c.bodies t [] (fun x hx t => by
    have hx3 := l3 x hx
    obtain ⟨i, hi', rfl⟩ := mem_at hx
    exact rdBd_lay _ (hi.2 i hi') (all_at f4 hi') (by omega) (by omega) (by simpa using hx3) t)
  unfold rdCd cdB
  simp only [List.append_assoc] at e0 ⊢
  simp only [e0, e1, e2, e3, List.nil_append]
  obtain ⟨sh, mt, bs⟩ := c
  dsimp only at *
  rw [Int.toNat_of_nonneg f1]
/-! ### and back -/
theorem rdN_inv {k : Nat} {s : Rst} (h : (rdN k s).2.2 = false) : s.2 = false ∧ s.1 = beb k (rdN k s).1 ++ (rdN k s).2.1 := by
  by_cases g : s.2 = true ∨ s.1.length < k
  · have e : rdN k s = (0, (s.1, true)) := if_pos g
    rw [e] at h; cases h
  · have g2 : s.2 = false := by cases h : s.2 <;> simp_all
    have g3 : k ≤ s.1.length := Nat.le_of_not_lt (fun e => g (.inr e))
    rw [rdN_ok g2 g3]
    refine ⟨g2, ?_⟩
    have := beb_num (s.1.take k)
    rw [List.length_take, Nat.min_eq_left g3] at this
    dsimp only
    rw [this, List.take_append_drop]
theorem rdV_inv {s : Rst} (h : (rdV s).2.2 = false) : s.2 = false ∧ s.1 = vlB (rdV s).1 ++ (rdV s).2.1 := by
  have h8 : (rdN 8 (rdN 1 s).2).2.2 = false := h
  obtain ⟨a1, a2⟩ := rdN_inv h8
  obtain ⟨b1, b2⟩ := rdN_inv a1
  refine ⟨b1, ?_⟩
  unfold vlB rdV
  dsimp only
  rw [Int.toNat_natCast, Int.toNat_natCast, List.append_assoc, ← a2]
  exact b2
theorem rdL_inv {α : Type} (f : Rst → α × Rst) (enc : α → List UInt8) (hf : ∀ s, (f s).2.2 = false → s.2 = false ∧ s.1 = enc (f s).1 ++ (f s).2.1) : ∀ (n : Nat) (s : Rst) (acc : List α), (rdL f n s acc).2.2 = false →
    s.2 = false ∧ ∃ l, (rdL f n s acc).1 = acc ++ l ∧ l.length = n ∧ s.1 = l.flatMap enc ++ (rdL f n s acc).2.1
  | 0, s, acc, h => ⟨h, [], by simp [rdL], rfl, rfl⟩
  | n + 1, s, acc, h => by
    rw [rdL] at h ⊢
    by_cases g : s.2 = true
    · rw [if_pos g] at h
      have h : s.2 = false := h
      rw [h] at g; cases g
    · rw [if_neg g] at h ⊢
      obtain ⟨a1, l, a2, a3, a4⟩ := rdL_inv f enc hf n _ _ h
      obtain ⟨b1, b2⟩ := hf s a1
      exact ⟨b1, (f s).1 :: l, by rw [a2, List.append_assoc]; rfl, by rw [List.length_cons, a3], by rw [b2, a4, List.flatMap_cons, List.append_assoc]⟩
theorem rdI_inv {s : Rst} (h : (rdI s).2.2 = false) : s.2 = false ∧ s.1 = inB (rdI s).1 ++ (rdI s).2.1 := by
  by_cases g : (rdN 1 s).1 = 1
  · have e : rdI s = (⟨(rdN 1 s).1, (rdN 1 (rdN 1 s).2).1, (rdV (rdN 1 (rdN 1 s).2).2).1⟩, (rdV (rdN 1 (rdN 1 s).2).2).2) := if_pos g
    rw [e] at h ⊢
    obtain ⟨a1, a2⟩ := rdV_inv h
    obtain ⟨b1, b2⟩ := rdN_inv a1
    obtain ⟨c1, c2⟩ := rdN_inv b1
    refine ⟨c1, ?_⟩
    unfold inB
    dsimp only
    rw [if_pos (by omega), Int.toNat_natCast, Int.toNat_natCast, List.append_assoc, List.append_assoc, ← a2, ← b2]
    exact c2
  · have e : rdI s = (⟨(rdN 1 s).1, (rdN 1 (rdN 1 s).2).1, Vl.zero⟩, (rdN 1 (rdN 1 s).2).2) := if_neg g
    rw [e] at h ⊢
    obtain ⟨b1, b2⟩ := rdN_inv (k := 1) (s := (rdN 1 s).2) h
    obtain ⟨c1, c2⟩ := rdN_inv b1
    refine ⟨c1, ?_⟩
    unfold inB
    dsimp only
    rw [if_neg (by omega), Int.toNat_natCast, Int.toNat_natCast, List.append_nil, List.append_assoc, ← b2]
    exact c2
theorem rdVs_inv {s : Rst} (h : (rdVs s).2.2 = false) : s.2 = false ∧ s.1 = (beb 1 (rdVs s).1.length ++ (rdVs s).1.flatMap vlB) ++ (rdVs s).2.1 := by
  obtain ⟨a1, l, a2, a3, a4⟩ := rdL_inv rdV vlB (fun s => rdV_inv) _ _ _ h
  obtain ⟨b1, b2⟩ := rdN_inv a1
  have e : (rdVs s).1 = l := by rw [List.nil_append] at a2; exact a2
  refine ⟨b1, ?_⟩
  rw [e, a3, List.append_assoc]
  have a4 : (rdN 1 s).2.1 = l.flatMap vlB ++ (rdVs s).2.1 := a4
  rw [← a4]
  exact b2
theorem rdNd_inv {s : Rst} (h : (rdNd s).2.2 = false) : s.2 = false ∧ s.1 = ndB (rdNd s).1 ++ (rdNd s).2.1 := by
  generalize hc : rdL rdI (rdN 2 s).1 (rdN 2 s).2 [] = q0
  generalize hk : rdN 1 q0.2 = q1
  generalize ha : rdN 1 q1.2 = q2
  generalize hx : rdN 2 q2.2 = q3
  generalize hy : rdN 2 q3.2 = q4
  have hv : rdNd s = (⟨q0.1, q1.1, q2.1, q3.1, q4.1⟩, q4.2) := by rw [← hy, ← hx, ← ha, ← hk, ← hc]; rfl
  rw [hv] at h ⊢
  obtain ⟨a1, a2⟩ := rdN_inv (k := 2) (s := q3.2) (by rw [hy]; exact h)
  obtain ⟨b1, b2⟩ := rdN_inv (k := 2) (s := q2.2) (by rw [hx]; exact a1)
  obtain ⟨c1, c2⟩ := rdN_inv (k := 1) (s := q1.2) (by rw [ha]; exact b1)
  obtain ⟨d1, d2⟩ := rdN_inv (k := 1) (s := q0.2) (by rw [hk]; exact c1)
  obtain ⟨e1, l, e2, e3, e4⟩ := rdL_inv rdI inB (fun s => rdI_inv) (rdN 2 s).1 (rdN 2 s).2 [] (by rw [hc]; exact d1)
  obtain ⟨f1, f2⟩ := rdN_inv (k := 2) (s := s) e1
  rw [hc] at e2 e4
  rw [hk] at d2
  rw [ha] at c2
  rw [hx] at b2
  rw [hy] at a2
  rw [List.nil_append] at e2
  refine ⟨f1, ?_⟩
  unfold ndB
  dsimp only
  rw [e2, e3, f2, e4, d2, c2, b2, a2]
  simp only [List.append_assoc, Int.toNat_natCast]
theorem rdBd_inv {s : Rst} (h : (rdBd s).2.2 = false) : s.2 = false ∧ s.1 = bdB (rdBd s).1 ++ (rdBd s).2.1 := by
  generalize hl : rdVs s = q0
  generalize hk : rdN 1 q0.2 = q1
  generalize hn : rdL rdNd (rdN 2 q1.2).1 (rdN 2 q1.2).2 [] = q2
  have hv : rdBd s = (⟨q0.1, q1.1, q2.1⟩, q2.2) := by rw [← hn, ← hk, ← hl]; rfl
  rw [hv] at h ⊢
  obtain ⟨e1, l, e2, e3, e4⟩ := rdL_inv rdNd ndB (fun s => rdNd_inv) (rdN 2 q1.2).1 (rdN 2 q1.2).2 [] (by rw [hn]; exact h)
  obtain ⟨f1, f2⟩ := rdN_inv (k := 2) (s := q1.2) e1
  obtain ⟨c1, c2⟩ := rdN_inv (k := 1) (s := q0.2) (by rw [hk]; exact f1)
  obtain ⟨d1, d2⟩ := rdVs_inv (s := s) (by rw [hl]; exact c1)
  rw [hn] at e2 e4
  rw [hk] at c2
  rw [hl] at d2
  rw [List.nil_append] at e2
  refine ⟨d1, ?_⟩
  unfold bdB
  dsimp only
  rw [e2, e3, d2, c2, f2, e4]
  simp only [List.append_assoc, Int.toNat_natCast]
theorem rdCd_inv {s : Rst} (h : (rdCd s).2.2 = false) : s.2 = false ∧ s.1 = cdB (rdCd s).1 ++ (rdCd s).2.1 := by
  generalize hl : rdVs s = q0
  generalize hk : rdN 1 q0.2 = q1
  generalize hn : rdL rdBd (rdN 1 q1.2).1 (rdN 1 q1.2).2 [] = q2
  have hv : rdCd s = (⟨q0.1, q1.1, q2.1⟩, q2.2) := by rw [← hn, ← hk, ← hl]; rfl
  rw [hv] at h ⊢
  obtain ⟨e1, l, e2, e3, e4⟩ := rdL_inv rdBd bdB (fun s => rdBd_inv) (rdN 1 q1.2).1 (rdN 1 q1.2).2 [] (by rw [hn]; exact h)
  obtain ⟨f1, f2⟩ := rdN_inv (k := 1) (s := q1.2) e1
  obtain ⟨c1, c2⟩ := rdN_inv (k := 1) (s := q0.2) (by rw [hk]; exact f1)
  obtain ⟨d1, d2⟩ := rdVs_inv (s := s) (by rw [hl]; exact c1)
  rw [hn] at e2 e4
  rw [hk] at c2
  rw [hl] at d2
  rw [List.nil_append] at e2
  refine ⟨d1, ?_⟩
  unfold cdB
  dsimp only
  rw [e2, e3, d2, c2, f2, e4]
  simp only [List.append_assoc, Int.toNat_natCast]
theorem readL_some {b : List UInt8} {c : Cd} (h : readL b = some c) : cdB c = b ∧ chk c = 0 ∧ CdIn c ∧ CdSmall c := by
  unfold readL at h
  split at h
  · rename_i g
    injection h with h
    have hi := rdCd_in (b, false)
    have := (rdCd_inv (s := (b, false)) (by rw [g.1])).2
    rw [g.1, h] at this
    rw [h] at g hi
    rw [List.append_nil] at this
    obtain ⟨h1, h2, h3, h4⟩ := hi
    exact ⟨this.symm, g.2, h1, Nat.le_trans h2 (by omega), Nat.le_trans h3 (by omega), fun i hi => ⟨Nat.le_trans (h4 i hi).1 (by omega), Nat.le_trans (h4 i hi).2.1 (by omega), fun j hj => Nat.le_trans ((h4 i hi).2.2 j hj) (by omega)⟩⟩
  · cases h
theorem readL_lay {c : Cd} (hi : CdIn c) (hc : chk c = 0) : readL (cdB c) = some c := by
  have := rdCd_lay c hi hc []
  rw [List.append_nil] at this
  unfold readL
  rw [this, if_pos ⟨rfl, hc⟩]
/-- a byte more or less is read of none. -/
theorem readL_more {c : Cd} (hi : CdIn c) (hc : chk c = 0) (x : UInt8) : readL (cdB c ++ [x]) = none := by
  unfold readL
  rw [rdCd_lay c hi hc [x], if_neg (fun h => by have := h.1; injection this with a b; cases a)]
theorem readL_less {c : Cd} (hi : CdIn c) (hc : chk c = 0) (hne : 0 < (cdB c).length) : readL ((cdB c).take ((cdB c).length - 1)) = none := by
  cases h : readL ((cdB c).take ((cdB c).length - 1)) with
  | none => rfl
  | some d =>
    exfalso
    obtain ⟨h1, h2, h3, -⟩ := readL_some h
    have h4 := readL_more h3 h2 ((cdB c)[(cdB c).length - 1]'(by omega))
    rw [h1, ← List.take_succ_eq_append_getElem (by omega), Nat.sub_add_cancel hne, List.take_length, readL_lay hi hc] at h4
    cases h4
end Go.Proofs.Ytbmpjphemjponaa
