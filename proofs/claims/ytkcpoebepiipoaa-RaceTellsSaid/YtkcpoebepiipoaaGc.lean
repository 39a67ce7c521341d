/- race.ahead, race.race: is a pair a race? -/
import Derived.Test.YtkcpoebepiipoaaCf
import Derived.Test.YtkcpoebepiipoaaSg
set_option linter.unusedSimpArgs false
set_option linter.unusedVariables false
namespace Go.Proofs.Ytkcpoebepiipoaa
open Go.RowKit

set_option maxRecDepth 100000 in
set_option maxHeartbeats 4000000 in
theorem ahead_law (l : List Ev) (m : Nat) (hm : m = l.length) (hl : m ≤ 1000000) (n : Nat) (hn : n ≤ 1000) (hgood : ∀ i, i < m → 0 ≤ (ev l i).t ∧ (ev l i).t < n) (c : Nat → Nat → Nat) (i j : Nat) (hi : i < m) (hj : j < m) (A Ac : Option Addr) (cl cc B Bc : Nat) (w : World)
    (hA : Evs w B A l) (hB : B ≤ w.heap.size) (hc : Clk w Bc Ac m n c) (hBc : Bc ≤ w.heap.size) :
    Calls Try.prog 43 #[.slice Ac m cc, .slice A m cl, .int .i64 i, .int .i64 j] w fun e w' => e = .returned (.bool (aheadB c l i j)) ∧ Below w.heap.size w w' := by
  have Ha := Lib.hid (ahead_any l (by omega) n hn (fun i h => hgood i (by omega)) c i j (by omega) (by omega) A Ac cl cc B Bc w hA hB (hm ▸ hc) hBc)
  rw [← hm] at Ha
  clear hA hc hgood hm
  generalize aheadB c l i j = r at *
  go_enter Try.func43, Try.ntmps43
  go_wp2_with fail
  with_reducible refine Ha.out.mono ?_
  rintro e w1 ⟨rfl, hb⟩
  have Hb := Lib.hid hb
  clear hb
  cases r
  all_goals
    go_wp2_with fail
    go_ret
    exact ⟨rfl, Hb.out⟩
theorem aheadB_hb (l : List Ev) (i j : Nat) (h : 0 ≤ (ev l i).t) : aheadB (clk l) l i j = hb l i j := by
  unfold aheadB
  by_cases hij : i < j
  · have h1 := clk_hb l i j (tn l i) (by unfold tn; omega) hij
    rw [decide_eq_true hij, Bool.true_and]
    rw [Bool.eq_iff_iff, decide_eq_true_iff]
    exact h1.symm
  · rw [decide_eq_false hij, Bool.false_and]
    cases e : hb l i j with
    | false => rfl
    | true => exact absurd (hb_lt e) hij
/-- is there an event between two, of which the first one happens ahead, and that happens ahead of the second one? -/
def btw (l : List Ev) (i j : Nat) : Bool := (List.range j).any fun k => decide (i < k) && (hb l i k && hb l k j)
theorem btw_yes {l : List Ev} {i j k : Nat} (h1 : i < k) (h2 : k < j) (h3 : hb l i k = true) (h4 : hb l k j = true) : btw l i j = true :=
  List.any_eq_true.2 ⟨k, by simpa using h2, by simp [h1, h3, h4]⟩
theorem btw_no {l : List Ev} {i j : Nat} (h : ∀ k, i < k → k < j → (hb l i k && hb l k j) = false) : btw l i j = false := by
  unfold btw
  rw [List.any_eq_false]
  intro k hk
  have hk' : k < j := by simpa using hk
  by_cases h1 : i < k
  · simp [h1, h k h1 hk']
  · simp [h1]
def raceB (l : List Ev) (i j : Nat) : Bool := dpd (ev l i) (ev l j) && !btw l i j

set_option maxRecDepth 100000 in
set_option maxHeartbeats 4000000 in
theorem race_any (l : List Ev) (m : Nat) (hm : m = l.length) (hl : m ≤ 1000000) (n : Nat) (hn : n ≤ 1000) (hgood : ∀ i, i < m → 0 ≤ (ev l i).t ∧ (ev l i).t < n) (i j : Nat) (hij : i < j) (hj : j < m) (A Ac : Option Addr) (cl cc B Bc : Nat) (w : World)
    (hA : Evs w B A l) (hB : B ≤ w.heap.size) (hc : Clk w Bc Ac m n (clk l)) (hBc : Bc ≤ w.heap.size) :
    Calls Try.prog 27 #[.slice Ac m cc, .slice A m cl, .agg #[.int .i64 i, .int .i64 j]] w fun e w' => e = .returned (.bool (raceB l i j)) ∧ Below w.heap.size w w' := by
  have HAh : Hid (∀ (W : World) (a b : Nat), Below w.heap.size w W → a < m → b < m → Calls Try.prog 43 #[.slice Ac m cc, .slice A m cl, .int .i64 a, .int .i64 b] W fun e w' => e = .returned (.bool (hb l a b)) ∧ Below W.heap.size W w') :=
    Lib.hid fun W a b h ha hb => by
      have := ahead_law l m hm hl n hn hgood (clk l) a b ha hb A Ac cl cc B Bc W (hA.below (h.mono hB)) (Nat.le_trans hB h.size) (hc.below (h.mono hBc)) (Nat.le_trans hBc h.size)
      rwa [aheadB_hb l a b (hgood a ha).1] at this
  obtain ⟨b, off, rfl, hb3, c1, c2, c3⟩ := hA i (by omega)
  obtain ⟨_, _, e3, _, d1, d2, d3⟩ := hA j (by omega)
  injection e3 with e3; injection e3 with e1 e2; subst e1 e2
  have HC : Hid (∀ W, Below w.heap.size w W → W.cell? ⟨b, off + i * 3, none⟩ = some (.int .i64 (ev l i).t) ∧ W.cell? ⟨b, off + i * 3 + 1, none⟩ = some (.int .i64 (ev l i).k) ∧ W.cell? ⟨b, off + i * 3 + 2, none⟩ = some (.int .i64 (ev l i).o) ∧ W.cell? ⟨b, off + j * 3, none⟩ = some (.int .i64 (ev l j).t) ∧ W.cell? ⟨b, off + j * 3 + 1, none⟩ = some (.int .i64 (ev l j).k) ∧ W.cell? ⟨b, off + j * 3 + 2, none⟩ = some (.int .i64 (ev l j).o)) :=
    Lib.hid fun W h => ⟨(h.cell (p := ⟨b, _, none⟩) (Nat.lt_of_lt_of_le hb3 hB)).trans c1, (h.cell (p := ⟨b, _, none⟩) (Nat.lt_of_lt_of_le hb3 hB)).trans c2, (h.cell (p := ⟨b, _, none⟩) (Nat.lt_of_lt_of_le hb3 hB)).trans c3, (h.cell (p := ⟨b, _, none⟩) (Nat.lt_of_lt_of_le hb3 hB)).trans d1, (h.cell (p := ⟨b, _, none⟩) (Nat.lt_of_lt_of_le hb3 hB)).trans d2, (h.cell (p := ⟨b, _, none⟩) (Nat.lt_of_lt_of_le hb3 hB)).trans d3⟩
  have hlm : Hid (m = l.length) := Lib.hid hm
  have him : i < m := by omega
  clear hA hc hgood c1 c2 c3 d1 d2 d3 hm
  have HR : Hid (raceB l i j = (dpd (ev l i) (ev l j) && !btw l i j)) := Lib.hid rfl
  have HD := Lib.hid (fun W => depends_any (ev l i) (ev l j) W)
  have HY := Lib.hid (fun k => btw_yes (l := l) (i := i) (j := j) (k := k))
  have HN := Lib.hid (btw_no (l := l) (i := i) (j := j))
  simp only [ev_eta] at HD
  generalize dpd (ev l i) (ev l j) = dp at *
  generalize ev l i = ei at *
  generalize ev l j = ej at *
  go_enter Try.func27, Try.ntmps27
  go_wp2_with fail
  have hb0 := below_alloc w (.cells #[.int .i64 i, .int .i64 j] 45)
  have hp0 := heap_alloc_new w (.cells #[.int .i64 i, .int .i64 j] 45)
  have hps : w.heap.size < (w.alloc (.cells #[.int .i64 i, .int .i64 j] 45)).heap.size := by simp
  generalize w.alloc (.cells #[.int .i64 i, .int .i64 j] 45) = w1 at *
  have HP : Hid (∀ W, Below w1.heap.size w1 W → W.cell? ⟨w.heap.size, 0, none⟩ = some (.int .i64 i) ∧ W.cell? ⟨w.heap.size, 1, none⟩ = some (.int .i64 j)) :=
    Lib.hid fun W h => ⟨(h.cell (p := ⟨w.heap.size, 0, none⟩) hps).trans (by rw [cell_blk (T := 45) hp0]; rfl), (h.cell (p := ⟨w.heap.size, 1, none⟩) hps).trans (by rw [cell_blk (T := 45) hp0]; rfl)⟩
  have H0 : Hid (Below w.heap.size w w1) := Lib.hid hb0
  clear hb0 hp0
  apply wp_region_relS 12 [(Sum.inl _ : TT), (Sum.inl _ : TT), (Sum.inl _ : TT), (Sum.inl _ : TT), (Sum.inl _ : TT), (Sum.inl _ : TT), (Sum.inl _ : TT), (Sum.inl _ : TT), (Sum.inl _ : TT), (Sum.inl _ : TT), (Sum.inl _ : TT), (Sum.inl _ : TT)] (by kernel_rfl) (by kernel_rfl) rfl
  simp only [List.take_succ_cons, List.take_zero, List.drop_succ_cons, List.drop_zero]
  iterate 10 (apply rel_isS; (intro W hW hf; obtain ⟨x1, x2, x3, y1, y2, y3⟩ := HC.out W (H0.out.trans (hW.mono H0.out.size)); obtain ⟨z1, z2⟩ := HP.out W hW; go_simp; first | exact ⟨StayS.refl _ _, rfl⟩ | rfl); simp only [Act.put, List.setIfInBounds_toArray, List.set_cons_succ, List.set_cons_zero])
  apply rel_isS
  · intro W hW hf
    exact rel_callS hW rfl (by go_simp <;> first | rfl | exact ⟨rfl, rfl⟩ | exact ⟨rfl, rfl, rfl⟩) ((HD.out W).mono fun e w'' h => ⟨_, h.1, h.2, rfl⟩)
  simp only [Act.put, List.setIfInBounds_toArray, List.set_cons_succ, List.set_cons_zero]
  iterate 1 (apply rel_isS; (intro W hW hf; go_simp; first | exact ⟨StayS.refl _ _, rfl⟩ | rfl); simp only [Act.put, List.setIfInBounds_toArray, List.set_cons_succ, List.set_cons_zero])
  refine rel_endS ?_
  intro W hW hf
  try simp only [Act.put, List.setIfInBounds_toArray, List.set_cons_succ, List.set_cons_zero]
  have HW := Lib.hid hW
  clear hW hf
  cases dp
  · go_wp2_with fail
    go_ret
    exact ⟨ret_bool (by rw [HR.out]; rfl), H0.out.trans (HW.out.mono H0.out.size)⟩
  · obtain ⟨z1, z2⟩ := HP.out W HW.out
    have wi : IntKind.i64.wrap ((i : Int) + 1) = i + 1 := wi64 _ (by omega) (by omega)
    simp only [Bool.not_true]
    go_wp2_with fail
    clear z1 z2
    go_loopw [7] (fun kv wr => ∃ k : Nat, i < k ∧ (k ≤ j) ∧ kv = .int .i64 k ∧ (∀ k', i < k' → k' < k → (hb l i k' && hb l k' j) = false) ∧ Below w1.heap.size w1 wr) (fun kv _ => j - (intOf kv).toNat)
    case atStart => exact ⟨i + 1, by omega, by omega, rfl, fun k' h1 h2 => by omega, HW.out⟩
    case round =>
      obtain ⟨k, hk1, hk2, rfl, hk3, hb4⟩ := hrel
      obtain ⟨z1, z2⟩ := HP.out wr hb4
      have HK3 := Lib.hid hk3; have HB4 := Lib.hid hb4
      clear hk3 hb4
      by_cases hlt : k < j
      · have HA1 := Lib.hid (HAh.out wr i k (H0.out.trans (HB4.out.mono H0.out.size)) (by omega) (by omega))
        have HN1 : Hid ((hb l i k && hb l k j) = false → ∀ k', i < k' → k' < k + 1 → (hb l i k' && hb l k' j) = false) := Lib.hid (fun h k' h1 h2 => by
          by_cases e : k' = k
          · rw [e]; exact h
          · exact HK3.out k' h1 (by omega))
        have HY1 := Lib.hid (HY.out k hk1 hlt)
        have HA2 := Lib.hid (fun W => HAh.out W k j)
        generalize hb l i k = x at *
        generalize hb l k j = y at *
        go_wp2_with fail
        refine HA1.out.mono ?_
        rintro e w2 ⟨rfl, hb5⟩
        have HB5 := Lib.hid (HB4.out.trans (hb5.mono HB4.out.size))
        clear hb5 z1 z2
        obtain ⟨z1, z2⟩ := HP.out w2 HB5.out
        cases x
        · have HN2 := Lib.hid (HN1.out rfl)
          go_wp2_with fail
          go_roundw
          case rel => exact ⟨k + 1, by omega, by omega, by go_num, HN2.out, HB5.out⟩
          case measure => simp [intOf]; omega
        · have HA3 := Lib.hid (HA2.out w2 (H0.out.trans (HB5.out.mono H0.out.size)) (by omega) (by omega))
          go_wp2_with fail
          refine HA3.out.mono ?_
          rintro e w3 ⟨rfl, hb6⟩
          have HB6 := Lib.hid (HB5.out.trans (hb6.mono HB5.out.size))
          clear hb6 z1 z2
          cases y
          · have HN2 := Lib.hid (HN1.out rfl)
            go_wp2_with fail
            go_roundw
            case rel => exact ⟨k + 1, by omega, by omega, by go_num, HN2.out, HB6.out⟩
            case measure => simp [intOf]; omega
          · have HF := Lib.hid (HY1.out (by trivial) (by trivial))
            go_wp2_with fail
            go_ret
            exact ⟨ret_bool (by rw [HR.out, HF.out]; rfl), H0.out.trans (HB6.out.mono H0.out.size)⟩
      · obtain rfl : k = j := by omega
        have HF := Lib.hid (HN.out HK3.out)
        go_wp2_with fail
        go_ret
        exact ⟨ret_bool (by rw [HR.out, HF.out]; rfl), H0.out.trans (HB4.out.mono H0.out.size)⟩
end Go.Proofs.Ytkcpoebepiipoaa
