/- ClockKnown. -/
import Derived.Test.YtmllmfjdbfikoaaCt
set_option linter.unusedSimpArgs false
set_option linter.unusedVariables false
namespace Go.Proofs.Ytmllmfjdbfikoaa
open Go.RowKit

theorem ex_good : ∀ i, i < 5 → 0 ≤ (ev exL i).t ∧ (ev exL i).t < (2 : Nat) := by
  intro i hi
  have : i = 0 ∨ i = 1 ∨ i = 2 ∨ i = 3 ∨ i = 4 := by omega
  rcases this with rfl | rfl | rfl | rfl | rfl <;> decide
theorem ex_sel : sel exL 4 4 = [0, 1, 2, 3] := by decide
theorem ex_ahead : aheadB (clk exL) exL 0 1 = true ∧ aheadB (clk exL) exL 2 3 = false ∧ aheadB (clk exL) exL 3 4 = true ∧ aheadB (clk exL) exL 1 0 = false := by decide
theorem ex_wrong1 : wrongE exL 1 = 2 := by decide
set_option maxRecDepth 100000 in
set_option maxHeartbeats 4000000 in
theorem known_any (w : World) : Calls Try.prog 3 #[] w fun e w' => e = .returned (.bool true) ∧ Below w.heap.size w w' := by
  obtain ⟨a1, a2, a3, a4⟩ := ex_ahead
  have A1 := Lib.hid a1; have A2 := Lib.hid a2; have A3 := Lib.hid a3; have A4 := Lib.hid a4
  clear a1 a2 a3 a4
  go_enter Try.func3, Try.ntmps3
  go_wp2_with fail
  refine (example_any w).mono ?_
  rintro e w1 ⟨A, rfl, hne, hA, hb⟩
  have HA := Lib.hid hA; have HB := Lib.hid hb
  clear hA hb
  go_wp2_with fail
  refine (clocks_at exL 5 rfl (by omega) 2 ex_wrong A 5 (Nat.le_refl _) _ w1 HA.out (Nat.le_refl _)).mono ?_
  rintro e w2 ⟨Ac, c, rfl, hc, hb2⟩
  have HC := Lib.hid hc; have HB2 := Lib.hid (HB.out.trans (hb2.mono HB.out.size))
  have HA2 := Lib.hid ((HA.out.below hb2).more hb2.size)
  clear hc hb2 HA
  go_wp2_with fail
  refine (past_any exL 5 rfl (by omega) 2 ex_wrong 4 (by omega) A 5 (Nat.le_refl _) w2 HA2.out).mono ?_
  rintro e w3 ⟨Ap, cp, rfl, hp, hb3⟩
  rw [ex_sel] at hp ⊢
  have HP := Lib.hid hp; have HB3 := Lib.hid (HB2.out.trans (hb3.mono HB2.out.size))
  have HA3 := Lib.hid ((HA2.out.below hb3).more hb3.size)
  have HC3 := Lib.hid ((HC.out.below hb3).more hb3.size)
  clear hp hb3 HA2 HC
  dsimp only [List.length_cons, List.length_nil] at HP ⊢
  go_wp2_with fail
  refine (clocks_any exL (by decide) 1 A 5 (Nat.le_refl _) w3 HA3.out).mono ?_
  rintro e w4 ⟨hb4, ⟨hw4, rfl⟩ | ⟨hw4, _⟩⟩
  · rw [ex_wrong1]
    clear hw4
    have HB4 := Lib.hid (HB3.out.trans (hb4.mono HB3.out.size))
    have HA4 := Lib.hid ((HA3.out.below hb4).more hb4.size)
    have HC4 := Lib.hid ((HC3.out.below hb4).more hb4.size)
    have HP4 := Lib.hid (HP.out.below hb4)
    have hs4 := hb4.size
    have HPB := Lib.hid hs4
    clear hb4 hs4 HA3 HC3 HP
    go_wp2_with fail
    refine (awake_any w4).mono ?_
    rintro e w5 ⟨rfl, hb5⟩
    have H5 := Lib.hid hb5
    clear hb5
    have AH : Hid (∀ (i j : Nat) (r : Bool), i < 5 → j < 5 → aheadB (clk exL) exL i j = r → ∀ W, Below w4.heap.size w4 W → Calls Try.prog 9 #[.slice Ac 5 c, .slice A 5 5, .int .i64 i, .int .i64 j] W fun e w' => e = .returned (.bool r) ∧ Below w4.heap.size w4 w') := Lib.hid (fun i j r hi hj hr W hW =>
      (ahead_law exL 5 rfl (by omega) 2 (by omega) ex_good (clk exL) i j hi hj A Ac 5 c _ _ W (HA4.out.below hW) hW.size (HC4.out.below hW) hW.size).mono fun e w' ⟨h1, h2⟩ => ⟨by rw [← hr]; exact h1, hW.trans (h2.mono hW.size)⟩)
    go_wp2_with fail
    refine (AH.out 0 1 _ (by omega) (by omega) A1.out w5 H5.out).mono ?_
    rintro e w6 ⟨rfl, hb6⟩
    have H6 := Lib.hid hb6
    clear hb6
    go_wp2_with fail
    refine (AH.out 2 3 _ (by omega) (by omega) A2.out w6 H6.out).mono ?_
    rintro e w7 ⟨rfl, hb7⟩
    have H7 := Lib.hid hb7
    clear hb7
    go_wp2_with fail
    refine (AH.out 3 4 _ (by omega) (by omega) A3.out w7 H7.out).mono ?_
    rintro e w8 ⟨rfl, hb8⟩
    have H8 := Lib.hid hb8
    clear hb8
    go_wp2_with fail
    refine (AH.out 1 0 _ (by omega) (by omega) A4.out w8 H8.out).mono ?_
    rintro e w9 ⟨rfl, hb9⟩
    have H9 := Lib.hid hb9
    clear hb9
    go_wp2_with fail
    generalize hW : World.alloc _ _ = w10
    have Hb10 : Hid (Below w9.heap.size w9 w10) := Lib.hid (by subst hW; exact below_alloc _ _)
    have Hx10 : Hid (w10.heap[w9.heap.size]? = some (.cells #[.int .i64 0, .int .i64 1, .int .i64 2, .int .i64 3] 3 (0, 0))) := Lib.hid (by subst hW; exact heap_alloc_new _ _)
    clear hW
    have H10 := Lib.hid (H9.out.trans (Hb10.out.mono H9.out.size))
    refine (same_ints 4 (by omega) (fun t => [0, 1, 2, 3].getD t 0) Ap (some ⟨w9.heap.size, 0, none⟩) cp 4 w10.heap.size w10 ?_ ?_ (Nat.le_refl _)).mono ?_
    · intro t ht
      obtain ⟨b, o, e, h1, h2⟩ := (HP4.out.below (H10.out.mono HPB.out)) t ht
      exact ⟨b, o, e, Nat.lt_of_lt_of_le h1 (Nat.le_trans HPB.out H10.out.size), h2⟩
    · intro t ht
      refine ⟨w9.heap.size, 0, rfl, lt_blk Hx10.out, ?_⟩
      have : t = 0 ∨ t = 1 ∨ t = 2 ∨ t = 3 := by omega
      rw [cell_blk Hx10.out]
      rcases this with rfl | rfl | rfl | rfl <;> rfl
    rintro e w11 ⟨rfl, hb11⟩
    have H11 := Lib.hid (HB4.out.trans ((H10.out.trans (hb11.mono H10.out.size)).mono HB4.out.size))
    clear hb11
    go_wp2_with fail
    go_ret
    exact ⟨rfl, H11.out⟩
  · rw [ex_wrong1] at hw4; cases hw4
end Go.Proofs.Ytmllmfjdbfikoaa
