/- real.May, code.valid, within, operator, operands; values asked one by one. -/
import Derived.Test.YtbmpjphemjponaaWp
import Derived.Test.YtbmpjphemjponaaVf
import Derived.WalkLawsBesides
import Derived.Laws.Externs
set_option linter.unusedSimpArgs false
set_option linter.unusedVariables false
namespace Go.Proofs.Ytbmpjphemjponaa
open Go.RowKit

theorem run_frombits (x : Int) (w : World) : (callFunc 102 #[.int .u64 x]).run Try.prog w = .ok (.value (.float .f64 x.toNat)) w := by
  rw [run_callFunc_extern Try.func102 (e := Extern.MathFloatBits.float64frombits) (by kernel_rfl) (by kernel_rfl) (by kernel_rfl) (by kernel_rfl)]
  rfl
theorem run_tobits (x : Nat) (w : World) : (callFunc 101 #[.float .f64 x]).run Try.prog w = .ok (.value (.int .u64 x)) w := by
  rw [run_callFunc_extern Try.func101 (e := Extern.MathFloatBits.float64bits) (by kernel_rfl) (by kernel_rfl) (by kernel_rfl) (by kernel_rfl)]
  rfl
set_option maxRecDepth 100000 in
theorem of_any (x : Int) (w : World) : Calls Try.prog 99 #[.int .u64 x] w fun e w' => e = .returned (.float .f64 x.toNat) ∧ w' = w := by
  have h := run_frombits x
  go_enter Try.func99, Try.ntmps99
  go_wp2_with fail
  go_ret
  exact ⟨rfl, rfl⟩
set_option maxRecDepth 100000 in
theorem to_any (x : Int) (hx : 0 ≤ x) (w : World) : Calls Try.prog 98 #[.float .f64 x.toNat] w fun e w' => e = .returned (.int .u64 (canR x)) ∧ w' = w := by
  have H : Hid (canR x = if isN x then 9221120237041090560 else x) := Lib.hid rfl
  have HX : Hid ((x.toNat : Int) = x) := Lib.hid (by omega)
  generalize hd : isN x = d at *
  have hd' : (FloatKind.f64.format.order x.toNat x.toNat != some .eq) = d := hd
  clear hd
  generalize canR x = c at *
  have h := run_tobits x.toNat
  generalize x.toNat = n at *
  go_enter Try.func98, Try.ntmps98
  cases d
  all_goals
    go_wp2_with fail
    go_ret
    exact ⟨ret_int (by rw [H.out]; first | rfl | exact HX.out), rfl⟩
set_option maxRecDepth 100000 in
theorem canon_any (x : Int) (hx : 0 ≤ x) (w : World) : Calls Try.prog 95 #[.int .u64 x] w fun e w' => e = .returned (.int .u64 (canR x)) ∧ w' = w := by
  go_enter Try.func95, Try.ntmps95
  go_wp2_with fail
  refine (of_any _ _).mono ?_
  rintro e w1 ⟨rfl, rfl⟩
  go_wp2_with fail
  refine (to_any x hx _).mono ?_
  rintro e w1 ⟨rfl, rfl⟩
  go_wp2_with fail
  go_ret
  exact ⟨rfl, rfl⟩
set_option maxRecDepth 100000 in
theorem may_any (x : Int) (hx : 0 ≤ x) (w : World) : Calls Try.prog 86 #[.int .u64 x] w fun e w' => e = .returned (.bool (mayR x)) ∧ w' = w := by
  have H : Hid (mayR x = (canR x == x)) := Lib.hid rfl
  have hc := Lib.hid (canon_any x hx)
  generalize canR x = c at *
  go_enter Try.func86, Try.ntmps86
  go_wp2_with fail
  refine (hc.out _).mono ?_
  rintro e w1 ⟨rfl, rfl⟩
  go_wp2_with fail
  go_ret
  exact ⟨ret_bool H.out.symm, rfl⟩
def vav (v : Vl) : Value := .agg #[.int .u8 v.t, .int .u64 v.b]
set_option maxRecDepth 100000 in
theorem valid_any (v : Vl) (hb : 0 ≤ v.b) (w : World) : Calls Try.prog 74 #[vav v] w fun e w' => e = .returned (.bool (vOk v)) ∧ Below w.heap.size w w' := by
  have H : Hid (vOk v = if v.t = 1 then true else if v.t = 2 then decide (v.b ≤ 1) else if v.t = 3 then mayR v.b else false) := Lib.hid rfl
  have hm := Lib.hid (may_any v.b hb)
  unfold vav
  generalize vOk v = r at *
  obtain ⟨t, b⟩ := v
  dsimp only at *
  have HB := Lib.hid (below_alloc w (.cells #[.int .u8 t, .int .u64 b] 51))
  go_enter Try.func74, Try.ntmps74
  by_cases g1 : t = 1
  · subst g1
    go_wp2_with fail
    go_ret
    exact ⟨ret_bool (by rw [H.out]; rfl), HB.out⟩
  have d1 : (t == 1) = false := by simpa using g1
  by_cases g2 : t = 2
  · subst g2
    go_wp2_with fail
    go_ret
    exact ⟨ret_bool (by rw [H.out]; rfl), HB.out⟩
  have d2 : (t == 2) = false := by simpa using g2
  by_cases g3 : t = 3
  · subst g3
    go_wp2_with fail
    refine (hm.out _).mono ?_
    rintro e w1 ⟨rfl, rfl⟩
    go_wp2_with fail
    go_ret
    exact ⟨ret_bool (by rw [H.out]; rfl), HB.out⟩
  have d3 : (t == 3) = false := by simpa using g3
  go_wp2_with fail
  go_ret
  exact ⟨ret_bool (by rw [H.out, if_neg g1, if_neg g2, if_neg g3]), HB.out⟩
set_option maxRecDepth 100000 in
theorem within_any (n m : Int) (w : World) : Calls Try.prog 48 #[.int .i64 n, .int .i64 m] w fun e w' => e = .returned (.bool (wi n m)) ∧ w' = w := by
  have H : Hid (wi n m = (decide (0 ≤ n) && decide (n < m))) := Lib.hid rfl
  generalize wi n m = r at *
  go_enter Try.func48, Try.ntmps48
  by_cases h : 0 ≤ n
  · have d : decide (0 ≤ n) = true := decide_eq_true h
    go_wp2_with fail
    go_ret
    exact ⟨ret_bool (by rw [H.out, d]; rfl), rfl⟩
  · have d : decide (0 ≤ n) = false := decide_eq_false h
    go_wp2_with fail
    go_ret
    exact ⟨ret_bool (by rw [H.out, d]; rfl), rfl⟩
set_option maxRecDepth 100000 in
theorem operator_any (n : Int) (w : World) : Calls Try.prog 88 #[.int .u8 n] w fun e w' => e = .returned (.bool (isOp n)) ∧ w' = w := by
  have H : Hid (isOp n = (decide (3 ≤ n) && decide (n ≤ 19))) := Lib.hid rfl
  generalize isOp n = r at *
  go_enter Try.func88, Try.ntmps88
  by_cases h : 3 ≤ n
  · have d : decide (3 ≤ n) = true := decide_eq_true h
    go_wp2_with fail
    go_ret
    exact ⟨ret_bool (by rw [H.out, d]; rfl), rfl⟩
  · have d : decide (3 ≤ n) = false := decide_eq_false h
    go_wp2_with fail
    go_ret
    exact ⟨ret_bool (by rw [H.out, d]; rfl), rfl⟩
set_option maxRecDepth 100000 in
theorem operands_any (n : Int) (w : World) : Calls Try.prog 89 #[.int .u8 n] w fun e w' => e = .returned (.int .i64 (opn n)) ∧ w' = w := by
  have H : Hid (opn n = if 16 ≤ n then 1 else 2) := Lib.hid rfl
  generalize opn n = r at *
  go_enter Try.func89, Try.ntmps89
  by_cases h : 16 ≤ n
  · have d : decide (16 ≤ n) = true := decide_eq_true h
    go_wp2_with fail
    go_ret
    exact ⟨ret_int (by rw [H.out, if_pos h]; rfl), rfl⟩
  · have d : decide (16 ≤ n) = false := decide_eq_false h
    go_wp2_with fail
    go_ret
    exact ⟨ret_int (by rw [H.out, if_neg (by omega)]; rfl), rfl⟩
/-! ### values, one by one: is one of them none? -/
set_option maxRecDepth 100000 in
theorem notok_1 (v : Vl) (hb : 0 ≤ v.b) (w : World) : Calls Try.prog 73 #[vav v] w fun e w' => e = .returned (.bool (!vOk v)) ∧ Below w.heap.size w w' := by
  have hm := Lib.hid (valid_any v hb)
  unfold vav at *
  generalize vOk v = r at *
  obtain ⟨t, b⟩ := v
  dsimp only at *
  have HB := Lib.hid (below_alloc w (.cells #[.int .u8 t, .int .u64 b] 51))
  go_enter Try.func73, Try.ntmps73
  go_wp2_with fail
  refine (hm.out _).mono ?_
  rintro e w1 ⟨rfl, hb1⟩
  have H1 := Lib.hid (HB.out.trans (hb1.mono HB.out.size))
  clear hb1
  go_wp2_with fail
  go_ret
  exact ⟨rfl, H1.out⟩
/-- the place of the first that may not be; -1: all may. -/
theorem index_1 (l : List Vl) (n : Nat) (hn : n = l.length) (hl : n ≤ 4000000) (hv : ∀ i, i < n → 0 ≤ (l.getD i default).b) (p : Slc) (B : Nat) (w : World) (h1 : VlsAt w B p l) (hB : B ≤ w.heap.size) :
    Calls Try.prog 85 #[.slice p.1 n p.2, .func (.func 73) #[] #[]] w fun e w' => (∃ k : Int, e = .returned (.int .i64 k) ∧ l.all vOk = decide (k < 0)) ∧ Below w.heap.size w w' := by
  obtain ⟨A, c⟩ := p
  have H1 := Lib.hid h1; have N1 := Lib.hid hn; have HV := Lib.hid hv
  clear h1 hn hv
  go_enter Try.func85, Try.ntmps85
  go_wp2_with fail
  go_loopw [8] (fun iv wr => ∃ k : Nat, k ≤ n ∧ iv = .int .i64 k ∧ (∀ i, i < k → vOk (l.getD i default) = true) ∧ Below w.heap.size w wr) (fun iv _ => n - (intOf iv).toNat)
  case atStart => exact ⟨0, by omega, rfl, fun i hi => by omega, Below.refl _ _⟩
  case round =>
    obtain ⟨k, hk, rfl, hall, hb⟩ := hrel
    have Hall := Lib.hid hall; have Hb := Lib.hid hb
    clear hall hb
    by_cases hlt : k < n
    · obtain ⟨b, o, rfl, hb1, x0, x1⟩ := VlsAt.cells H1.out (show k < l.length by rw [← N1.out]; exact hlt)
      have y0 := (Hb.out.cell (p := ⟨b, _, none⟩) (Nat.lt_of_lt_of_le hb1 hB)).trans x0
      have y1 := (Hb.out.cell (p := ⟨b, _, none⟩) (Nat.lt_of_lt_of_le hb1 hB)).trans x1
      have HC := Lib.hid (notok_1 (l.getD k default) (HV.out k hlt))
      have HA1 : Hid (vOk (l.getD k default) = true → ∀ i, i < k + 1 → vOk (l.getD i default) = true) := Lib.hid (fun h i hi => by
        by_cases e : i = k
        · rw [e]; exact h
        · exact Hall.out i (by omega))
      have HF1 : Hid (vOk (l.getD k default) = false → l.all vOk = false) := Lib.hid (fun h => all_not (by rw [← N1.out]; exact hlt) h)
      clear x0 x1
      unfold vav at HC
      generalize vOk (l.getD k default) = r at *
      generalize l.getD k default = a at *
      obtain ⟨t, bb⟩ := a
      dsimp only at *
      go_wp2_with fail
      refine (HC.out _).mono ?_
      rintro e w1 ⟨rfl, hb1⟩
      have H2 := Lib.hid (Hb.out.trans (hb1.mono Hb.out.size))
      clear hb1 y0 y1
      cases r
      · have HN := Lib.hid (HF1.out rfl)
        go_wp2_with fail
        go_ret
        exact ⟨⟨k, rfl, by rw [HN.out, decide_eq_false (by omega)]⟩, H2.out⟩
      · go_wp2_with fail
        go_roundw
        case rel => exact ⟨k + 1, by omega, by go_num, HA1.out (by trivial), H2.out⟩
        case measure => simp [intOf]; omega
    · obtain rfl : k = n := by omega
      have HN : Hid (l.all vOk = true) := Lib.hid (all_of (by rw [← N1.out]; exact Hall.out))
      go_wp2_with fail
      go_ret
      exact ⟨⟨-1, rfl, by rw [HN.out, decide_eq_true (by omega)]⟩, Hb.out⟩
theorem contains_1 (l : List Vl) (n : Nat) (hn : n = l.length) (hl : n ≤ 4000000) (hv : ∀ i, i < n → 0 ≤ (l.getD i default).b) (p : Slc) (B : Nat) (w : World) (h1 : VlsAt w B p l) (hB : B ≤ w.heap.size) :
    Calls Try.prog 72 #[.slice p.1 n p.2, .func (.func 73) #[] #[]] w fun e w' => e = .returned (.bool (!l.all vOk)) ∧ Below w.heap.size w w' := by
  have Hi := Lib.hid (index_1 l n hn hl hv p B w h1 hB)
  clear h1 hv hn
  obtain ⟨A, c⟩ := p
  dsimp only at *
  generalize l.all vOk = q at *
  go_enter Try.func72, Try.ntmps72
  go_wp2_with fail
  refine Hi.out.mono ?_
  rintro e w1 ⟨⟨k, rfl, hk⟩, hb⟩
  have HB := Lib.hid hb
  have HK := Lib.hid hk
  clear hb hk Hi
  go_wp2_with fail
  go_ret
  exact ⟨ret_bool (by rw [HK.out]; by_cases h : k < 0 <;> simp [h] <;> omega), HB.out⟩
set_option maxRecDepth 100000 in
theorem notok_2 (v : Vl) (hb : 0 ≤ v.b) (w : World) : Calls Try.prog 75 #[vav v] w fun e w' => e = .returned (.bool (!vOk v)) ∧ Below w.heap.size w w' := by
  have hm := Lib.hid (valid_any v hb)
  unfold vav at *
  generalize vOk v = r at *
  obtain ⟨t, b⟩ := v
  dsimp only at *
  have HB := Lib.hid (below_alloc w (.cells #[.int .u8 t, .int .u64 b] 51))
  go_enter Try.func75, Try.ntmps75
  go_wp2_with fail
  refine (hm.out _).mono ?_
  rintro e w1 ⟨rfl, hb1⟩
  have H1 := Lib.hid (HB.out.trans (hb1.mono HB.out.size))
  clear hb1
  go_wp2_with fail
  go_ret
  exact ⟨rfl, H1.out⟩
/-- the place of the first that may not be; -1: all may. -/
theorem index_2 (l : List Vl) (n : Nat) (hn : n = l.length) (hl : n ≤ 4000000) (hv : ∀ i, i < n → 0 ≤ (l.getD i default).b) (p : Slc) (B : Nat) (w : World) (h1 : VlsAt w B p l) (hB : B ≤ w.heap.size) :
    Calls Try.prog 85 #[.slice p.1 n p.2, .func (.func 75) #[] #[]] w fun e w' => (∃ k : Int, e = .returned (.int .i64 k) ∧ l.all vOk = decide (k < 0)) ∧ Below w.heap.size w w' := by
  obtain ⟨A, c⟩ := p
  have H1 := Lib.hid h1; have N1 := Lib.hid hn; have HV := Lib.hid hv
  clear h1 hn hv
  go_enter Try.func85, Try.ntmps85
  go_wp2_with fail
  go_loopw [8] (fun iv wr => ∃ k : Nat, k ≤ n ∧ iv = .int .i64 k ∧ (∀ i, i < k → vOk (l.getD i default) = true) ∧ Below w.heap.size w wr) (fun iv _ => n - (intOf iv).toNat)
  case atStart => exact ⟨0, by omega, rfl, fun i hi => by omega, Below.refl _ _⟩
  case round =>
    obtain ⟨k, hk, rfl, hall, hb⟩ := hrel
    have Hall := Lib.hid hall; have Hb := Lib.hid hb
    clear hall hb
    by_cases hlt : k < n
    · obtain ⟨b, o, rfl, hb1, x0, x1⟩ := VlsAt.cells H1.out (show k < l.length by rw [← N1.out]; exact hlt)
      have y0 := (Hb.out.cell (p := ⟨b, _, none⟩) (Nat.lt_of_lt_of_le hb1 hB)).trans x0
      have y1 := (Hb.out.cell (p := ⟨b, _, none⟩) (Nat.lt_of_lt_of_le hb1 hB)).trans x1
      have HC := Lib.hid (notok_2 (l.getD k default) (HV.out k hlt))
      have HA1 : Hid (vOk (l.getD k default) = true → ∀ i, i < k + 1 → vOk (l.getD i default) = true) := Lib.hid (fun h i hi => by
        by_cases e : i = k
        · rw [e]; exact h
        · exact Hall.out i (by omega))
      have HF1 : Hid (vOk (l.getD k default) = false → l.all vOk = false) := Lib.hid (fun h => all_not (by rw [← N1.out]; exact hlt) h)
      clear x0 x1
      unfold vav at HC
      generalize vOk (l.getD k default) = r at *
      generalize l.getD k default = a at *
      obtain ⟨t, bb⟩ := a
      dsimp only at *
      go_wp2_with fail
      refine (HC.out _).mono ?_
      rintro e w1 ⟨rfl, hb1⟩
      have H2 := Lib.hid (Hb.out.trans (hb1.mono Hb.out.size))
      clear hb1 y0 y1
      cases r
      · have HN := Lib.hid (HF1.out rfl)
        go_wp2_with fail
        go_ret
        exact ⟨⟨k, rfl, by rw [HN.out, decide_eq_false (by omega)]⟩, H2.out⟩
      · go_wp2_with fail
        go_roundw
        case rel => exact ⟨k + 1, by omega, by go_num, HA1.out (by trivial), H2.out⟩
        case measure => simp [intOf]; omega
    · obtain rfl : k = n := by omega
      have HN : Hid (l.all vOk = true) := Lib.hid (all_of (by rw [← N1.out]; exact Hall.out))
      go_wp2_with fail
      go_ret
      exact ⟨⟨-1, rfl, by rw [HN.out, decide_eq_true (by omega)]⟩, Hb.out⟩
theorem contains_2 (l : List Vl) (n : Nat) (hn : n = l.length) (hl : n ≤ 4000000) (hv : ∀ i, i < n → 0 ≤ (l.getD i default).b) (p : Slc) (B : Nat) (w : World) (h1 : VlsAt w B p l) (hB : B ≤ w.heap.size) :
    Calls Try.prog 72 #[.slice p.1 n p.2, .func (.func 75) #[] #[]] w fun e w' => e = .returned (.bool (!l.all vOk)) ∧ Below w.heap.size w w' := by
  have Hi := Lib.hid (index_2 l n hn hl hv p B w h1 hB)
  clear h1 hv hn
  obtain ⟨A, c⟩ := p
  dsimp only at *
  generalize l.all vOk = q at *
  go_enter Try.func72, Try.ntmps72
  go_wp2_with fail
  refine Hi.out.mono ?_
  rintro e w1 ⟨⟨k, rfl, hk⟩, hb⟩
  have HB := Lib.hid hb
  have HK := Lib.hid hk
  clear hb hk Hi
  go_wp2_with fail
  go_ret
  exact ⟨ret_bool (by rw [HK.out]; by_cases h : k < 0 <;> simp [h] <;> omega), HB.out⟩
end Go.Proofs.Ytbmpjphemjponaa
