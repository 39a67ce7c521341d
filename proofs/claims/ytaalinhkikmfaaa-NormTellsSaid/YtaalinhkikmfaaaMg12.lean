/- several texts in one: lent events: LentEvents, SameEvents, KeptEvents., KeptEvents. -/
import Derived.Test.YtaalinhkikmfaaaEg
import Derived.Deep.RegionHeld3
section
set_option linter.unusedSimpArgs false
set_option linter.unusedVariables false
namespace Go.Proofs.Ytaalinhkikmfaaa
open Go.RowKit

theorem run_make_elS {P : Program} {t e : TypeId} {z : Value} {sz bytes : Nat} (E : ElS P t e z sz bytes) (n : Nat) (hn : n ≤ 1000000000000) (hb : bytes ≤ 100) :
    ∃ MC : Array Value, MC.size = n * sz ∧ ∀ (i : Int) (w : World), i = n → (Instr.makeSlice t (.int .i64 i) (.int .i64 i)).run P w = .ok (.slice (some ⟨w.heap.size, 0, none⟩) n n) (w.alloc (.cells MC e)) := by
  obtain ⟨ti, hi, hz0, hz1, hz2⟩ := info_parts E.hi
  refine ⟨madeCells z.cells (n * sz), size_madeCells _ _, fun i w hi' => ?_⟩
  subst hi'
  have h := run_make (P := P) w t e ti z E.ht hi hz0 .i64 .i64 n n (by omega) (by omega) (by
    rw [hz2]
    have : bytes * n ≤ 100 * 1000000000000 := Nat.mul_le_mul hb hn
    have h2 : ((bytes * n : Nat) : Int) ≤ 100000000000000 := by omega
    rw [Int.natCast_mul] at h2; omega) (by omega)
  rw [h, hz1, Int.toNat_natCast]
theorem ElS.sizeS {P : Program} {t e : TypeId} {z : Value} {sz bytes : Nat} (E : ElS P t e z sz bytes) : (P.info? e).map (·.size) = some sz := by
  have hi := E.hi
  cases hq : P.info? e with
  | none => rw [hq] at hi; simp at hi
  | some i => rw [hq] at hi; simp at hi; simp [hi.2.1]
theorem run_copy_rowS {P : Program} (w : World) (dT sT ty elem : TypeId) (sz g dLen dCap : Nat) (a : Addr) (sLen sCap : Nat) (cur : Array Value) (t : TypeId) (cs : List Value)
    (hu : P.underlying dT = some (.slice elem)) (hs : (P.info? elem).map (·.size) = some sz)
    (hg : w.heap[g]? = some (.cells cur t (0, 0))) (hn : cs.length = Nat.min sLen dLen * sz)
    (hsrc : ∀ j v, cs[j]? = some v → w.cell? (a.add j) = some v) (hfit : cs.length ≤ cur.size) (h1 : ∀ v ∈ cs, v.oneCell' = true) :
    (Builtin.copy_ #[dT, sT] ty #[.slice (some ⟨g, 0, none⟩) dLen dCap, .slice (some a) sLen sCap]).run P w =
      .ok (goInt (Nat.min sLen dLen)) (w.setRow g (cs ++ cur.toList.drop cs.length).toArray) := by
  have hl := run_loadCells_list (P := P) w a cs hsrc
  have hst := run_storeCells_at P g 0 t cs 0 cur w hg (by simpa using hfit) h1
  cases hq : P.info? elem with
  | none => simp [hq] at hs
  | some i =>
    have hi : i.size = sz := by simpa [hq] using hs
    simp [Builtin.copy_, run_underlying hu, Builtin.lenOf, Builtin.firstCells, sizeOf, typeInfo, hq, hi, ← hn, hl, hst]
theorem run_copy_freshS {P : Program} {t e : TypeId} {z : Value} {sz bytes : Nat} (E : ElS P t e z sz bytes) (ty : TypeId) (w : World) (A : Option Addr) (xs : List Value) (n cap m : Nat) (MC : Array Value) (hMC : MC.size = m * sz) (hn : xs.length = n * sz) (hm : n ≤ m)
    (hr : Rd w w.heap.size A xs) (hA : A = none → n = 0) (h1 : ∀ u ∈ xs, u.oneCell' = true) :
    ∃ w1 cur, (Builtin.copy_ #[t, t] ty #[.slice (some ⟨w.heap.size, 0, none⟩) m m, .slice A n cap]).run P (w.alloc (.cells MC e)) = .ok (.int .i64 n) w1 ∧
      w1.heap[w.heap.size]? = some (.cells cur e (0, 0)) ∧ cur.size = m * sz ∧ (∀ j, j < n * sz → cur[j]? = xs[j]?) ∧ Below w.heap.size w w1 := by
  have hle : n * sz ≤ m * sz := Nat.mul_le_mul_right _ hm
  rcases A with _ | ad
  · obtain rfl := hA rfl
    obtain rfl := List.eq_nil_of_length_eq_zero (by simpa using hn)
    refine ⟨w.alloc (.cells MC e), MC, ?_, heap_alloc_new _ _, hMC, fun j hj => by simp at hj, (Below.refl _ _).alloc (Nat.le_refl _) _⟩
    cases hq : P.info? e with
    | none => have := E.sizeS; rw [hq] at this; simp at this
    | some i => simp [Builtin.copy_, run_underlying E.ht, Builtin.lenOf, Builtin.firstCells, sizeOf, typeInfo, hq, storeCells, goInt]
  · have hsrc : ∀ j v, xs[j]? = some v → (w.alloc (.cells MC e)).cell? (ad.add j) = some v := fun j v hv => by
      obtain ⟨b', off', e2, hb', hc⟩ := hr j v hv
      injection e2 with e2
      subst e2
      have hadd : (⟨b', off', none⟩ : Addr).add j = ⟨b', off' + j, none⟩ := by unfold Addr.add; split <;> simp_all
      rw [hadd, World.cell?_alloc_lt _ _ _ hb']; exact hc
    have hmin : Nat.min n m = n := Nat.min_eq_left hm
    refine ⟨_, _, (run_copy_rowS (P := P) (w.alloc (.cells MC e)) t t ty e sz w.heap.size m m ad n cap MC e xs E.ht E.sizeS (heap_alloc_new _ _) (by rw [hn, hmin]) hsrc (by rw [hn, hMC]; exact hle) h1).trans (by rw [hmin]; rfl), setRow_heap _ _ _ _ _ _ (heap_alloc_new _ _), ?_, fun j hj => ?_, below_setRow ((Below.refl _ _).alloc (Nat.le_refl _) _) (Nat.le_refl _) _⟩
    · simp [hn, hMC]; omega
    · rw [List.getElem?_toArray, List.getElem?_append_left (by omega)]
def mkE (i : Nat) : Ev := ⟨77, i, 0⟩
def lentE (l : List Ev) : List Ev := l ++ [mkE l.length, mkE (l.length + 1), mkE (l.length + 2)]
theorem lentE_length (l : List Ev) : (lentE l).length = l.length + 3 := by simp [lentE]
theorem lentE_lt (l : List Ev) (i : Nat) (h : i < l.length) : ev (lentE l) i = ev l i := by
  simp [lentE, ev, List.getD_eq_getElem?_getD, List.getElem?_append_left h]
theorem lentE_at (l : List Ev) (k : Nat) (h : k < 3) : ev (lentE l) (l.length + k) = mkE (l.length + k) := by
  have : k = 0 ∨ k = 1 ∨ k = 2 := by omega
  rcases this with rfl | rfl | rfl <;> simp [lentE, ev, List.getD_eq_getElem?_getD]
theorem evcells_at (l : List Ev) (j : Nat) (h : j < l.length * 3) : (evcells l)[j]? = some (evc (ev l (j / 3)) (j % 3)) := evcells_get l j h
set_option maxRecDepth 100000 in
set_option maxHeartbeats 4000000 in
theorem lent_events (l : List Ev) (m : Nat) (hm : m = l.length) (hl : m ≤ 1000000) (A : Option Addr) (cap : Nat) (w : World) (hA : Evs w w.heap.size A l) (hA0 : A = none → m = 0) :
    Calls Try.prog 8 #[.slice A m cap] w fun e w' => ∃ g cur, e = .returned (.slice (some ⟨g, 0, none⟩) m (m + 3)) ∧ w.heap.size ≤ g ∧
      w'.heap[g]? = some (.cells cur 50 (0, 0)) ∧ (∀ j, j < (m + 3) * 3 → cur[j]? = (evcells (lentE l))[j]?) ∧ Below w.heap.size w w' := by
  obtain ⟨MC, hMC, hmk0⟩ := run_make_elS (P := Try.prog) ES3 (m + 3) (by omega) (by omega)
  have hmk := fun W => hmk0 ((m : Int) + 3) W (by omega)
  clear hmk0
  obtain ⟨w1, cur, hcp, hw1, hsz1, hc1, hb1⟩ := run_copy_freshS (P := Try.prog) ES3 3 w A (evcells l) m cap (m + 3) MC hMC (by rw [evcells_length, hm]) (by omega) hA.rd hA0 (evcells_one l)
  have HM := Lib.hid hm; have Hw1 := Lib.hid hw1; have Hc1 := Lib.hid hc1; have Hb1 := Lib.hid hb1; have HZ1 := Lib.hid hsz1
  have H0 : Hid (∀ j, j < m * 3 → cur[j]? = (evcells (lentE l))[j]?) := Lib.hid (fun j hj => by
    rw [hc1 j hj, evcells_get l j (by rw [← hm]; exact hj), evcells_get (lentE l) j (by rw [lentE_length, ← hm]; omega), lentE_lt l (j / 3) (by rw [← hm]; omega)])
  have HAt : Hid (∀ k, k < 3 → ∀ t, t < 3 → (evcells (lentE l))[(m + k) * 3 + t]? = some (evc ⟨77, (m + k : Nat), 0⟩ t)) := Lib.hid (fun k hk t ht => by
    rw [evcells_get (lentE l) _ (by rw [lentE_length, ← hm]; omega), show ((m + k) * 3 + t) / 3 = m + k by omega, show ((m + k) * 3 + t) % 3 = t by omega, hm, lentE_at l k hk]
    rfl)
  clear hA hA0 hm hw1 hc1 hb1 hsz1
  generalize evcells (lentE l) = cs at *
  go_enter Try.func8, Try.ntmps8
  go_wp2
  clear hcp hmk
  generalize hg : w.heap.size = g
  rw [hg] at Hw1 Hb1
  have Hg := Lib.hid hg
  clear hg
  go_loopw [4] (fun i wr => ∃ (k : Nat) (cu : Array Value), k ≤ 3 ∧ i = .int .i64 ((m : Int) + k) ∧ wr.heap[g]? = some (.cells cu 50 (0, 0)) ∧ cu.size = (m + 3) * 3 ∧ (∀ j, j < (m + k) * 3 → cu[j]? = cs[j]?) ∧ Below g w wr) (fun i _ => m + 3 - (intOf i).toNat)
  case atStart => exact ⟨0, cur, by omega, by go_num, Hw1.out, HZ1.out, H0.out, Hb1.out⟩
  case round =>
    obtain ⟨k, cu, hk, rfl, hw, hs, hc, hb⟩ := hrel
    have Hw := Lib.hid hw; have Hb := Lib.hid hb; have HC := Lib.hid hc; have HS := Lib.hid hs
    clear hw hb hc hs
    by_cases hlt : k < 3
    · obtain ⟨y0, hy0⟩ : ∃ y, cu[(m + k) * 3]? = some y := ⟨_, Array.getElem?_eq_getElem (by have := HS.out; omega)⟩
      obtain ⟨y1, hy1⟩ : ∃ y, cu[(m + k) * 3 + 1]? = some y := ⟨_, Array.getElem?_eq_getElem (by have := HS.out; omega)⟩
      obtain ⟨y2, hy2⟩ : ∃ y, cu[(m + k) * 3 + 2]? = some y := ⟨_, Array.getElem?_eq_getElem (by have := HS.out; omega)⟩
      have c0 : wr.cell? ⟨g, (m + k) * 3, none⟩ = some y0 := by rw [cell_blk Hw.out]; exact hy0
      have c1 : wr.cell? ⟨g, (m + k) * 3 + 1, none⟩ = some y1 := by rw [cell_blk Hw.out]; exact hy1
      have c2 : wr.cell? ⟨g, (m + k) * 3 + 2, none⟩ = some y2 := by rw [cell_blk Hw.out]; exact hy2
      have f0 : ∀ j, wr.frozen? ⟨g, j, none⟩ = false := fun j => free_blk Hw.out _
      clear hy0 hy1 hy2
      go_wp2
      go_roundw
      case rel =>
        refine ⟨k + 1, _, by omega, by go_num, set_blk (set_blk (set_blk Hw.out _ _) _ _) _ _, by simp [HS.out], fun j hj => ?_, ((Hb.out.setCell (by simp) _).setCell (by simp) _).setCell (by simp) _⟩
        have hlt3 : (m + k) * 3 + 2 < cu.size := by have := HS.out; omega
        by_cases e2 : j = (m + k) * 3 + 2
        · subst e2
          rw [Array.getElem?_setIfInBounds_self_of_lt (by simp; omega)]
          exact (HAt.out k hlt 2 (by omega)).symm
        · rw [Array.getElem?_setIfInBounds_ne (by omega)]
          by_cases e1 : j = (m + k) * 3 + 1
          · subst e1
            rw [Array.getElem?_setIfInBounds_self_of_lt (by simp; omega)]
            exact (HAt.out k hlt 1 (by omega)).symm
          · rw [Array.getElem?_setIfInBounds_ne (by omega)]
            by_cases e0 : j = (m + k) * 3
            · subst e0
              rw [Array.getElem?_setIfInBounds_self_of_lt (by omega)]
              exact (HAt.out k hlt 0 (by omega)).symm
            · rw [Array.getElem?_setIfInBounds_ne (by omega)]
              exact HC.out j (by omega)
      case measure => simp [intOf]; omega
    · obtain rfl : k = 3 := by omega
      go_wp2
      go_ret
      exact ⟨g, cu, rfl, Nat.le_of_eq Hg.out, Hw.out, HC.out, by rw [Hg.out]; exact Hb.out⟩
theorem lent_rd {w : World} {g m : Nat} {cur : Array Value} {l : List Ev} (hm : m = l.length) (hg : w.heap[g]? = some (.cells cur 50 (0, 0))) (hc : ∀ j, j < (m + 3) * 3 → cur[j]? = (evcells (lentE l))[j]?) : Evs w (g + 1) (some ⟨g, 0, none⟩) (lentE l) :=
  Evs.of_rd (fun j u hu => by
    have hj : j < (m + 3) * 3 := by
      have := (List.getElem?_eq_some_iff.1 hu).1
      rw [evcells_length, lentE_length, ← hm] at this
      exact this
    refine ⟨g, 0, rfl, by omega, ?_⟩
    rw [cell_blk (T := 50) hg]
    simpa using (hc j hj).trans hu)
theorem lent_evs {w : World} {B : Nat} {A : Option Addr} {l : List Ev} (h : Evs w B A (lentE l)) : Evs w B A l := fun i hi => by
  have := h i (by rw [lentE_length]; omega)
  rwa [lentE_lt l i hi] at this
set_option maxRecDepth 100000 in
set_option maxHeartbeats 4000000 in
theorem same_events (l : List Ev) (n : Nat) (hn : n = l.length) (hn2 : n ≤ 1000000) (A A' : Option Addr) (c c' B : Nat) (w : World) (hA : Evs w B A l) (hA' : Evs w B A' l) (hB : B ≤ w.heap.size) :
    Calls Try.prog 28 #[.slice A n c, .slice A' n c'] w fun e w' => e = .returned (.bool true) ∧ Below w.heap.size w w' := by
  have HA := Lib.hid hA; have HA' := Lib.hid hA'; have HN := Lib.hid hn
  clear hA hA' hn
  go_enter Try.func28, Try.ntmps28
  go_wp2_with fail
  go_loopw [5] (fun i wr => ∃ k : Nat, k ≤ n ∧ i = .int .i64 k ∧ Below w.heap.size w wr) (fun i _ => n - (intOf i).toNat)
  case atStart => exact ⟨0, by omega, rfl, Below.refl _ _⟩
  case round =>
    obtain ⟨k, hk, rfl, hb⟩ := hrel
    have Hb := Lib.hid hb
    clear hb
    by_cases hlt : k < n
    · obtain ⟨b, o, rfl, h0, h1, h2, h3⟩ := HA.out k (by rw [← HN.out]; exact hlt)
      obtain ⟨b', o', rfl, h0', h1', h2', h3'⟩ := HA'.out k (by rw [← HN.out]; exact hlt)
      have T : Hid (∀ W, Below wr.heap.size wr W → W.cell? ⟨b, o + k * 3, none⟩ = some (.int .i64 (ev l k).t) ∧ W.cell? ⟨b, o + k * 3 + 1, none⟩ = some (.int .i64 (ev l k).k) ∧ W.cell? ⟨b, o + k * 3 + 2, none⟩ = some (.int .i64 (ev l k).o) ∧ W.cell? ⟨b', o' + k * 3, none⟩ = some (.int .i64 (ev l k).t) ∧ W.cell? ⟨b', o' + k * 3 + 1, none⟩ = some (.int .i64 (ev l k).k) ∧ W.cell? ⟨b', o' + k * 3 + 2, none⟩ = some (.int .i64 (ev l k).o)) := Lib.hid (fun W hW => by
        have hW := Hb.out.trans (hW.mono Hb.out.size)
        exact ⟨(hW.cell (p := ⟨b, _, none⟩) (Nat.lt_of_lt_of_le h0 hB)).trans h1, (hW.cell (p := ⟨b, _, none⟩) (Nat.lt_of_lt_of_le h0 hB)).trans h2, (hW.cell (p := ⟨b, _, none⟩) (Nat.lt_of_lt_of_le h0 hB)).trans h3, (hW.cell (p := ⟨b', _, none⟩) (Nat.lt_of_lt_of_le h0' hB)).trans h1', (hW.cell (p := ⟨b', _, none⟩) (Nat.lt_of_lt_of_le h0' hB)).trans h2', (hW.cell (p := ⟨b', _, none⟩) (Nat.lt_of_lt_of_le h0' hB)).trans h3'⟩)
      clear h1 h2 h3 h1' h2' h3'
      generalize ev l k = z at *
      go_upto_region 6 with (fail)
      apply wp_region_relH (H := []) 9 [(Sum.inl _ : TT), (Sum.inl _ : TT), (Sum.inl _ : TT), (Sum.inl _ : TT), (Sum.inl _ : TT), (Sum.inl _ : TT), (Sum.inl _ : TT), (Sum.inl _ : TT), (Sum.inl _ : TT)] (by kernel_rfl) (by kernel_rfl) (fun _ _ _ _ _ h => h) rfl
      simp only [List.take_succ_cons, List.take_zero, List.drop_succ_cons, List.drop_zero]
      iterate 9 (apply rel_isS; (intro W hW hf; obtain ⟨hx1, hx2, hx3, hx4, hx5, hx6⟩ := T.out W hW; go_simp; first | exact ⟨StayS.refl _ _, rfl⟩ | rfl); simp only [Act.put, List.setIfInBounds_toArray, List.set_cons_succ, List.set_cons_zero])
      refine rel_endS ?_
      intro W hW hf
      try simp only [Act.put, List.setIfInBounds_toArray, List.set_cons_succ, List.set_cons_zero]
      refine wpList_nil ?_
      have HW := Lib.hid (Hb.out.trans (hW.mono Hb.out.size))
      clear hW hf
      go_wp2_with fail
      go_roundw
      case rel => exact ⟨k + 1, by omega, by go_num, HW.out⟩
      case measure => simp [intOf]; omega
    · obtain rfl : k = n := by omega
      go_wp2_with fail
      go_ret
      exact ⟨rfl, Hb.out⟩
end Go.Proofs.Ytaalinhkikmfaaa
end

section
set_option linter.unusedSimpArgs false
set_option linter.unusedVariables false
namespace Go.Proofs.Ytaalinhkikmfaaa
open Go.RowKit
set_option maxRecDepth 100000 in
set_option maxHeartbeats 4000000 in
theorem kept_events (l : List Ev) (m : Nat) (hm : m = l.length) (hl : m ≤ 100000) (A : Option Addr) (cap g : Nat) (cur : Array Value) (w : World) (hA : Evs w w.heap.size A l) (hA0 : A = none → m = 0) (hg : w.heap[g]? = some (.cells cur 50 (0, 0))) (hc : ∀ j, j < (m + 3) * 3 → cur[j]? = (evcells (lentE l))[j]?) :
    Calls Try.prog 21 #[.slice (some ⟨g, 0, none⟩) m (m + 3), .slice A m cap] w fun e w' => e = .returned (.bool true) ∧ Below w.heap.size w w' := by
  have HA := Lib.hid hA
  have HA0 := Lib.hid hA0
  have Hg := Lib.hid (lent_rd hm hg hc)
  have Hgl := Lib.hid (lt_blk hg)
  have HM := Lib.hid hm
  have Hlen : Hid (m + 3 = (lentE l).length) := Lib.hid (by rw [lentE_length, hm])
  clear hA hg hA0 hc hm
  obtain ⟨c, hc⟩ : ∃ c, c = m + 3 := ⟨_, rfl⟩
  rw [← hc] at Hlen ⊢
  have Hc := Lib.hid hc
  have x1 : (0 : Int) ≤ c := by omega
  have x2 : (0 : Int) ≤ (m : Int) + 3 := by omega
  have x3 : (m : Int) + 3 ≤ c := by omega
  have x4 : ((m : Int) + 3).toNat = c := by omega
  have x5 : IntKind.i64.wrap ((m : Int) + 3) = (m : Int) + 3 := wi64 _ (by omega) (by omega)
  clear hc
  go_enter Try.func21, Try.ntmps21
  go_wp2
  go_region_held3 (fun w' => Below w.heap.size w w') (first | exact (Below.refl _ _).drew | assumption) ((first
    | (go_at_call 8; refine (lent_events l m HM.out (by have := Hc.out; omega) A cap _ ?_ HA0.out).mono ?_; exact HA.out; rintro e w1 ⟨g1, cu1, rfl, hg1, hw1, hcu1, hb1⟩; have hbw1 : Below w.heap.size w w1 := (Below.refl _ _).drew.trans hb1; have Hw1 := Lib.hid (lent_rd HM.out hw1 hcu1); have Hl1 := Lib.hid (lt_blk hw1); clear hw1 hb1 hcu1; rw [← Hc.out])
    | (go_at_call 28; refine (same_events (lentE l) c Hlen.out (by have := Hc.out; omega) _ _ _ _ w1.heap.size w1 ?_ ?_ ?_).mono ?_; exact ((Hg.out.more Hgl.out).below hbw1).more hbw1.size; exact Hw1.out.more Hl1.out; exact Nat.le_refl _; rintro e w2 ⟨rfl, hb2⟩; have hbw2 : Below w.heap.size w w2 := hbw1.trans (hb2.mono hbw1.size); clear hb2)))
  go_wp2
  go_ret
  exact ⟨rfl, by assumption⟩
end Go.Proofs.Ytaalinhkikmfaaa
end
