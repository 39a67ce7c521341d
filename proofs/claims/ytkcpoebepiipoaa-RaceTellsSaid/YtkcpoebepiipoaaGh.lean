/- the law's same, pairs. -/
import Derived.Test.YtkcpoebepiipoaaGf
import Derived.Test.YtkcpoebepiipoaaGg
import Derived.Test.YtkcpoebepiipoaaIn
set_option linter.unusedSimpArgs false
set_option linter.unusedVariables false
namespace Go.Proofs.Ytkcpoebepiipoaa
open Go.RowKit

theorem prcells_length (ps : List (Nat × Nat)) : (prcells ps).length = ps.length * 2 := by
  induction ps with
  | nil => rfl
  | cons p ps ih => simp only [prcells, List.flatMap_cons, List.length_append, List.length_cons, List.length_nil] at ih ⊢; omega
def pr (ps : List (Nat × Nat)) (i : Nat) : Nat × Nat := ps.getD i (0, 0)
theorem prcells_get : ∀ (ps : List (Nat × Nat)) (i : Nat), i < ps.length → (prcells ps)[i * 2]? = some (.int .i64 (pr ps i).1) ∧ (prcells ps)[i * 2 + 1]? = some (.int .i64 (pr ps i).2)
  | [], i, h => by simp at h
  | p :: ps, 0, _ => ⟨rfl, rfl⟩
  | p :: ps, i + 1, h => by
    have h' := prcells_get ps i (by simpa using h)
    have e : prcells (p :: ps) = [.int .i64 p.1, .int .i64 p.2] ++ prcells ps := rfl
    have e2 : pr (p :: ps) (i + 1) = pr ps i := rfl
    rw [e, e2, show (i + 1) * 2 = i * 2 + 2 by omega, show i * 2 + 2 + 1 = (i * 2 + 1) + 2 by omega]
    exact h'
theorem lit_rd {w : World} {b : Nat} {cs : Array Value} {T : TypeId} {xs : List Value} (h : w.heap[b]? = some (.cells cs T (0, 0))) (hx : cs = xs.toArray) : Rd w (b + 1) (some ⟨b, 0, none⟩) xs := fun j u hu => by
  subst hx
  refine ⟨b, 0, rfl, by omega, ?_⟩
  rw [cell_blk (T := T) h]
  simpa using hu
theorem Rd.mono {w : World} {B B' : Nat} {A : Option Addr} {xs : List Value} (h : Rd w B A xs) (hB : B ≤ B') : Rd w B' A xs := fun j u hu => by
  obtain ⟨b, o, e, h1, h2⟩ := h j u hu
  exact ⟨b, o, e, by omega, h2⟩
set_option maxRecDepth 100000 in
set_option maxHeartbeats 4000000 in
theorem same_any (ps : List (Nat × Nat)) (n : Nat) (hn : n = ps.length) (hn2 : n ≤ 4000000) (A A' : Option Addr) (c c' B : Nat) (w : World) (hA : Rd w B A (prcells ps)) (hA' : Rd w B A' (prcells ps)) (hB : B ≤ w.heap.size) :
    Calls Try.prog 14 #[.slice A n c, .slice A' n c'] w fun e w' => e = .returned (.bool true) ∧ Below w.heap.size w w' := by
  have HA := Lib.hid hA; have HA' := Lib.hid hA'; have HN := Lib.hid hn
  clear hA hA' hn
  go_enter Try.func14, Try.ntmps14
  go_wp2_with fail
  go_loopw [5] (fun i wr => ∃ k : Nat, k ≤ n ∧ i = .int .i64 k ∧ Below w.heap.size w wr) (fun i _ => n - (intOf i).toNat)
  case atStart => exact ⟨0, by omega, rfl, Below.refl _ _⟩
  case round =>
    obtain ⟨k, hk, rfl, hb⟩ := hrel
    have Hb := Lib.hid hb
    clear hb
    by_cases hlt : k < n
    · obtain ⟨g1, g2⟩ := prcells_get ps k (by rw [← HN.out]; exact hlt)
      obtain ⟨b, o, rfl, h0, h1⟩ := HA.out _ _ g1
      obtain ⟨_, _, e1, _, h2⟩ := HA.out _ _ g2
      injection e1 with e1; injection e1 with e1 e2; subst e1 e2
      obtain ⟨b', o', rfl, h0', h1'⟩ := HA'.out _ _ g1
      obtain ⟨_, _, e1, _, h2'⟩ := HA'.out _ _ g2
      injection e1 with e1; injection e1 with e1 e2; subst e1 e2
      have T : Hid (∀ W, Below wr.heap.size wr W → W.cell? ⟨b, o + k * 2, none⟩ = some (.int .i64 (pr ps k).1) ∧ W.cell? ⟨b, o + k * 2 + 1, none⟩ = some (.int .i64 (pr ps k).2) ∧ W.cell? ⟨b', o' + k * 2, none⟩ = some (.int .i64 (pr ps k).1) ∧ W.cell? ⟨b', o' + k * 2 + 1, none⟩ = some (.int .i64 (pr ps k).2)) := Lib.hid (fun W hW => by
        have hW := Hb.out.trans (hW.mono Hb.out.size)
        exact ⟨(hW.cell (p := ⟨b, _, none⟩) (Nat.lt_of_lt_of_le h0 hB)).trans h1, (hW.cell (p := ⟨b, _, none⟩) (Nat.lt_of_lt_of_le h0 hB)).trans h2, (hW.cell (p := ⟨b', _, none⟩) (Nat.lt_of_lt_of_le h0' hB)).trans h1', (hW.cell (p := ⟨b', _, none⟩) (Nat.lt_of_lt_of_le h0' hB)).trans h2'⟩)
      clear h1 h2 h1' h2' g1 g2
      generalize (pr ps k).1 = z1 at *
      generalize (pr ps k).2 = z2 at *
      go_upto_region 6 with (fail)
      apply wp_region_relH (H := []) 9 [(Sum.inl _ : TT), (Sum.inl _ : TT), (Sum.inl _ : TT), (Sum.inl _ : TT), (Sum.inl _ : TT), (Sum.inl _ : TT), (Sum.inl _ : TT), (Sum.inl _ : TT), (Sum.inl _ : TT)] (by kernel_rfl) (by kernel_rfl) (fun _ _ _ _ _ h => h) rfl
      simp only [List.take_succ_cons, List.take_zero, List.drop_succ_cons, List.drop_zero]
      iterate 9 (apply rel_isS; (intro W hW hf; obtain ⟨hx1, hx2, hx3, hx4⟩ := T.out W hW; go_simp; first | exact ⟨StayS.refl _ _, rfl⟩ | rfl); simp only [Act.put, List.setIfInBounds_toArray, List.set_cons_succ, List.set_cons_zero])
      refine rel_endS ?_
      intro W hW hf
      try simp only [Act.put, List.setIfInBounds_toArray, List.set_cons_succ, List.set_cons_zero]
      refine wpList_nil ?_
      have HW := Lib.hid (Hb.out.trans (hW.mono Hb.out.size))
      clear hW hf
      go_wp2_with fail
      go_roundw
      case rel => exact ⟨k + 1, by omega, by go_num, HW.out⟩
      case measure => simp [intOf]; omega
    · obtain rfl : k = n := by omega
      go_wp2_with fail
      go_ret
      exact ⟨rfl, Hb.out⟩
set_option maxRecDepth 100000 in
set_option maxHeartbeats 4000000 in
theorem pairs_law (l : List Ev) (m : Nat) (hm : m = l.length) (hl : m ≤ 100) (n : Nat) (hw : wrongE l n = 0) (ps qs : List (Nat × Nat)) (hps : racesL l n = ps) (hqs : dataL l n = qs) (a b : Nat) (ha : a = ps.length) (hb : b = qs.length) (hz1 : a ≤ 4000000) (hz2 : b ≤ 4000000) (A A1 A2 : Option Addr) (cap c1 c2 B : Nat) (hcap : m ≤ cap) (w : World)
    (hA : Evs w B A l) (h1 : Rd w B A1 (prcells ps)) (h2 : Rd w B A2 (prcells qs)) (hB : B ≤ w.heap.size) :
    Calls Try.prog 18 #[.slice A m cap, .int .i64 n, .slice A1 a c1, .slice A2 b c2] w fun e w' => e = .returned (.bool true) ∧ Below w.heap.size w w' := by
  have HA := Lib.hid hA; have H1 := Lib.hid h1; have H2 := Lib.hid h2; have HM := Lib.hid hm; have HW := Lib.hid hw; have HPS := Lib.hid hps; have HQS := Lib.hid hqs; have Ha := Lib.hid ha; have Hb := Lib.hid hb
  clear hA h1 h2 hm hw hps hqs ha hb
  go_enter Try.func18, Try.ntmps18
  go_wp2_with fail
  refine (races_any l m HM.out (by omega) n A cap hcap B w HA.out hB).mono ?_
  rw [HW.out, HPS.out]
  rintro r w1 ⟨hb1, v, rfl, ho1⟩
  have HB1 := Lib.hid hb1; have HO1 := Lib.hid ho1
  have HA1 := Lib.hid ((HA.out.more hB).below hb1)
  clear hb1 ho1
  go_wp2_with fail
  refine (datas_any l m HM.out (by omega) n A cap hcap w.heap.size w1 HA1.out HB1.out.size).mono ?_
  rw [HW.out, HQS.out]
  rintro r w2 ⟨hb2, v2, rfl, ho2⟩
  have HB2 := Lib.hid (HB1.out.trans (hb2.mono HB1.out.size)); have HO2 := Lib.hid ho2
  have HO1' := Lib.hid (own_belowS HO1.out hb2)
  clear hb2 ho2
  obtain ⟨Ar, cr, e1, hr1, _, _⟩ := own_rdS HO1'.out
  subst e1
  obtain ⟨As, cs, e1, hr2, _, _⟩ := own_rdS HO2.out
  subst e1
  rw [← Ha.out, ← Hb.out]
  have HS1 := Lib.hid (same_any ps a Ha.out hz1 Ar A1 cr c1 w2.heap.size w2 hr1 (Rd.mono (H1.out.below (HB2.out.mono hB)) (Nat.le_trans hB HB2.out.size)) (Nat.le_refl _))
  have HS2 := Lib.hid (fun W (h : Below w2.heap.size w2 W) => same_any qs b Hb.out hz2 As A2 cs c2 w2.heap.size W (hr2.below h) (Rd.mono (H2.out.below ((HB2.out.trans (h.mono HB2.out.size)).mono hB)) (Nat.le_trans hB HB2.out.size)) h.size)
  clear hr1 hr2
  go_wp2_with fail
  with_reducible refine HS1.out.mono ?_
  rintro r w3 ⟨rfl, hb3⟩
  have HB3 := Lib.hid (HB2.out.trans (hb3.mono HB2.out.size))
  have HS3 := Lib.hid (HS2.out w3 hb3)
  clear hb3
  go_wp2_with fail
  with_reducible refine HS3.out.mono ?_
  rintro r w4 ⟨rfl, hb4⟩
  have HB4 := Lib.hid (HB3.out.trans (hb4.mono HB3.out.size))
  clear hb4
  go_wp2_with fail
  go_ret
  exact ⟨rfl, HB4.out⟩
end Go.Proofs.Ytkcpoebepiipoaa
