/- several texts in one: real.May, code.valid, within, operator, operands; values asked one by one., code.instr, code.node; instructions asked one by one., code.node; instructions asked one by one., code.fits., code.rows, code.result., code.stack., code.typed, code.touches., code.nodes, code.Check., (*code.reader).value, values., (*code.reader).node., slices.Clone of bytes; what stands in the loops of code.Read. -/
import Derived.Test.YtbmpjphemjponaaWp
import Derived.Test.YtbmpjphemjponaaVf
import Derived.WalkLawsBesides
import Derived.Laws.Externs
import Derived.Test.YtbmpjphemjponaaBx
import Derived.Test.YtbmpjphemjponaaVd
import Derived.Test.YtbmpjphemjponaaAs
import Derived.Test.YtbmpjphemjponaaVl
import Derived.Test.YtbmpjphemjponaaWr
import Derived.Test.YtbmpjphemjponaaSc
import Derived.Test.YtbmpjphemjponaaKf
section
set_option linter.unusedSimpArgs false
set_option linter.unusedVariables false
namespace Go.Proofs.Ytbmpjphemjponaa
open Go.RowKit

theorem run_frombits (x : Int) (w : World) : (callFunc 102 #[.int .u64 x]).run Try.prog w = .ok (.value (.float .f64 x.toNat)) w := by
  rw [run_callFunc_extern Try.func102 (e := Extern.MathFloatBits.float64frombits) (by kernel_rfl) (by kernel_rfl) (by kernel_rfl) (by kernel_rfl)]
  rfl
theorem run_tobits (x : Nat) (w : World) : (callFunc 101 #[.float .f64 x]).run Try.prog w = .ok (.value (.int .u64 x)) w := by
  rw [run_callFunc_extern Try.func101 (e := Extern.MathFloatBits.float64bits) (by kernel_rfl) (by kernel_rfl) (by kernel_rfl) (by kernel_rfl)]
  rfl
set_option maxRecDepth 100000 in
theorem of_any (x : Int) (w : World) : Calls Try.prog 99 #[.int .u64 x] w fun e w' => e = .returned (.float .f64 x.toNat) ∧ w' = w := by
  have h := run_frombits x
  go_enter Try.func99, Try.ntmps99
  go_wp2_with fail
  go_ret
  exact ⟨rfl, rfl⟩
set_option maxRecDepth 100000 in
theorem to_any (x : Int) (hx : 0 ≤ x) (w : World) : Calls Try.prog 98 #[.float .f64 x.toNat] w fun e w' => e = .returned (.int .u64 (canR x)) ∧ w' = w := by
  have H : Hid (canR x = if isN x then 9221120237041090560 else x) := Lib.hid rfl
  have HX : Hid ((x.toNat : Int) = x) := Lib.hid (by omega)
  generalize hd : isN x = d at *
  have hd' : (FloatKind.f64.format.order x.toNat x.toNat != some .eq) = d := hd
  clear hd
  generalize canR x = c at *
  have h := run_tobits x.toNat
  generalize x.toNat = n at *
  go_enter Try.func98, Try.ntmps98
  cases d
  all_goals
    go_wp2_with fail
    go_ret
    exact ⟨ret_int (by rw [H.out]; first | rfl | exact HX.out), rfl⟩
set_option maxRecDepth 100000 in
theorem canon_any (x : Int) (hx : 0 ≤ x) (w : World) : Calls Try.prog 95 #[.int .u64 x] w fun e w' => e = .returned (.int .u64 (canR x)) ∧ w' = w := by
  go_enter Try.func95, Try.ntmps95
  go_wp2_with fail
  refine (of_any _ _).mono ?_
  rintro e w1 ⟨rfl, rfl⟩
  go_wp2_with fail
  refine (to_any x hx _).mono ?_
  rintro e w1 ⟨rfl, rfl⟩
  go_wp2_with fail
  go_ret
  exact ⟨rfl, rfl⟩
set_option maxRecDepth 100000 in
theorem may_any (x : Int) (hx : 0 ≤ x) (w : World) : Calls Try.prog 86 #[.int .u64 x] w fun e w' => e = .returned (.bool (mayR x)) ∧ w' = w := by
  have H : Hid (mayR x = (canR x == x)) := Lib.hid rfl
  have hc := Lib.hid (canon_any x hx)
  generalize canR x = c at *
  go_enter Try.func86, Try.ntmps86
  go_wp2_with fail
  refine (hc.out _).mono ?_
  rintro e w1 ⟨rfl, rfl⟩
  go_wp2_with fail
  go_ret
  exact ⟨ret_bool H.out.symm, rfl⟩
def vav (v : Vl) : Value := .agg #[.int .u8 v.t, .int .u64 v.b]
set_option maxRecDepth 100000 in
theorem valid_any (v : Vl) (hb : 0 ≤ v.b) (w : World) : Calls Try.prog 74 #[vav v] w fun e w' => e = .returned (.bool (vOk v)) ∧ Below w.heap.size w w' := by
  have H : Hid (vOk v = if v.t = 1 then true else if v.t = 2 then decide (v.b ≤ 1) else if v.t = 3 then mayR v.b else false) := Lib.hid rfl
  have hm := Lib.hid (may_any v.b hb)
  unfold vav
  generalize vOk v = r at *
  obtain ⟨t, b⟩ := v
  dsimp only at *
  have HB := Lib.hid (below_alloc w (.cells #[.int .u8 t, .int .u64 b] 51))
  go_enter Try.func74, Try.ntmps74
  by_cases g1 : t = 1
  · subst g1
    go_wp2_with fail
    go_ret
    exact ⟨ret_bool (by rw [H.out]; rfl), HB.out⟩
  have d1 : (t == 1) = false := by simpa using g1
  by_cases g2 : t = 2
  · subst g2
    go_wp2_with fail
    go_ret
    exact ⟨ret_bool (by rw [H.out]; rfl), HB.out⟩
  have d2 : (t == 2) = false := by simpa using g2
  by_cases g3 : t = 3
  · subst g3
    go_wp2_with fail
    refine (hm.out _).mono ?_
    rintro e w1 ⟨rfl, rfl⟩
    go_wp2_with fail
    go_ret
    exact ⟨ret_bool (by rw [H.out]; rfl), HB.out⟩
  have d3 : (t == 3) = false := by simpa using g3
  go_wp2_with fail
  go_ret
  exact ⟨ret_bool (by rw [H.out, if_neg g1, if_neg g2, if_neg g3]), HB.out⟩
set_option maxRecDepth 100000 in
theorem within_any (n m : Int) (w : World) : Calls Try.prog 48 #[.int .i64 n, .int .i64 m] w fun e w' => e = .returned (.bool (wi n m)) ∧ w' = w := by
  have H : Hid (wi n m = (decide (0 ≤ n) && decide (n < m))) := Lib.hid rfl
  generalize wi n m = r at *
  go_enter Try.func48, Try.ntmps48
  by_cases h : 0 ≤ n
  · have d : decide (0 ≤ n) = true := decide_eq_true h
    go_wp2_with fail
    go_ret
    exact ⟨ret_bool (by rw [H.out, d]; rfl), rfl⟩
  · have d : decide (0 ≤ n) = false := decide_eq_false h
    go_wp2_with fail
    go_ret
    exact ⟨ret_bool (by rw [H.out, d]; rfl), rfl⟩
set_option maxRecDepth 100000 in
theorem operator_any (n : Int) (w : World) : Calls Try.prog 88 #[.int .u8 n] w fun e w' => e = .returned (.bool (isOp n)) ∧ w' = w := by
  have H : Hid (isOp n = (decide (3 ≤ n) && decide (n ≤ 19))) := Lib.hid rfl
  generalize isOp n = r at *
  go_enter Try.func88, Try.ntmps88
  by_cases h : 3 ≤ n
  · have d : decide (3 ≤ n) = true := decide_eq_true h
    go_wp2_with fail
    go_ret
    exact ⟨ret_bool (by rw [H.out, d]; rfl), rfl⟩
  · have d : decide (3 ≤ n) = false := decide_eq_false h
    go_wp2_with fail
    go_ret
    exact ⟨ret_bool (by rw [H.out, d]; rfl), rfl⟩
set_option maxRecDepth 100000 in
theorem operands_any (n : Int) (w : World) : Calls Try.prog 89 #[.int .u8 n] w fun e w' => e = .returned (.int .i64 (opn n)) ∧ w' = w := by
  have H : Hid (opn n = if 16 ≤ n then 1 else 2) := Lib.hid rfl
  generalize opn n = r at *
  go_enter Try.func89, Try.ntmps89
  by_cases h : 16 ≤ n
  · have d : decide (16 ≤ n) = true := decide_eq_true h
    go_wp2_with fail
    go_ret
    exact ⟨ret_int (by rw [H.out, if_pos h]; rfl), rfl⟩
  · have d : decide (16 ≤ n) = false := decide_eq_false h
    go_wp2_with fail
    go_ret
    exact ⟨ret_int (by rw [H.out, if_neg (by omega)]; rfl), rfl⟩
/-! ### values, one by one: is one of them none? -/
set_option maxRecDepth 100000 in
theorem notok_1 (v : Vl) (hb : 0 ≤ v.b) (w : World) : Calls Try.prog 73 #[vav v] w fun e w' => e = .returned (.bool (!vOk v)) ∧ Below w.heap.size w w' := by
  have hm := Lib.hid (valid_any v hb)
  unfold vav at *
  generalize vOk v = r at *
  obtain ⟨t, b⟩ := v
  dsimp only at *
  have HB := Lib.hid (below_alloc w (.cells #[.int .u8 t, .int .u64 b] 51))
  go_enter Try.func73, Try.ntmps73
  go_wp2_with fail
  refine (hm.out _).mono ?_
  rintro e w1 ⟨rfl, hb1⟩
  have H1 := Lib.hid (HB.out.trans (hb1.mono HB.out.size))
  clear hb1
  go_wp2_with fail
  go_ret
  exact ⟨rfl, H1.out⟩
/-- the place of the first that may not be; -1: all may. -/
theorem index_1 (l : List Vl) (n : Nat) (hn : n = l.length) (hl : n ≤ 4000000) (hv : ∀ i, i < n → 0 ≤ (l.getD i default).b) (p : Slc) (B : Nat) (w : World) (h1 : VlsAt w B p l) (hB : B ≤ w.heap.size) :
    Calls Try.prog 85 #[.slice p.1 n p.2, .func (.func 73) #[] #[]] w fun e w' => (∃ k : Int, e = .returned (.int .i64 k) ∧ l.all vOk = decide (k < 0)) ∧ Below w.heap.size w w' := by
  obtain ⟨A, c⟩ := p
  have H1 := Lib.hid h1; have N1 := Lib.hid hn; have HV := Lib.hid hv
  clear h1 hn hv
  go_enter Try.func85, Try.ntmps85
  go_wp2_with fail
  go_loopw [8] (fun iv wr => ∃ k : Nat, k ≤ n ∧ iv = .int .i64 k ∧ (∀ i, i < k → vOk (l.getD i default) = true) ∧ Below w.heap.size w wr) (fun iv _ => n - (intOf iv).toNat)
  case atStart => exact ⟨0, by omega, rfl, fun i hi => by omega, Below.refl _ _⟩
  case round =>
    obtain ⟨k, hk, rfl, hall, hb⟩ := hrel
    have Hall := Lib.hid hall; have Hb := Lib.hid hb
    clear hall hb
    by_cases hlt : k < n
    · obtain ⟨b, o, rfl, hb1, x0, x1⟩ := VlsAt.cells H1.out (show k < l.length by rw [← N1.out]; exact hlt)
      have y0 := (Hb.out.cell (p := ⟨b, _, none⟩) (Nat.lt_of_lt_of_le hb1 hB)).trans x0
      have y1 := (Hb.out.cell (p := ⟨b, _, none⟩) (Nat.lt_of_lt_of_le hb1 hB)).trans x1
      have HC := Lib.hid (notok_1 (l.getD k default) (HV.out k hlt))
      have HA1 : Hid (vOk (l.getD k default) = true → ∀ i, i < k + 1 → vOk (l.getD i default) = true) := Lib.hid (fun h i hi => by
        by_cases e : i = k
        · rw [e]; exact h
        · exact Hall.out i (by omega))
      have HF1 : Hid (vOk (l.getD k default) = false → l.all vOk = false) := Lib.hid (fun h => all_not (by rw [← N1.out]; exact hlt) h)
      clear x0 x1
      unfold vav at HC
      generalize vOk (l.getD k default) = r at *
      generalize l.getD k default = a at *
      obtain ⟨t, bb⟩ := a
      dsimp only at *
      go_wp2_with fail
      refine (HC.out _).mono ?_
      rintro e w1 ⟨rfl, hb1⟩
      have H2 := Lib.hid (Hb.out.trans (hb1.mono Hb.out.size))
      clear hb1 y0 y1
      cases r
      · have HN := Lib.hid (HF1.out rfl)
        go_wp2_with fail
        go_ret
        exact ⟨⟨k, rfl, by rw [HN.out, decide_eq_false (by omega)]⟩, H2.out⟩
      · go_wp2_with fail
        go_roundw
        case rel => exact ⟨k + 1, by omega, by go_num, HA1.out (by trivial), H2.out⟩
        case measure => simp [intOf]; omega
    · obtain rfl : k = n := by omega
      have HN : Hid (l.all vOk = true) := Lib.hid (all_of (by rw [← N1.out]; exact Hall.out))
      go_wp2_with fail
      go_ret
      exact ⟨⟨-1, rfl, by rw [HN.out, decide_eq_true (by omega)]⟩, Hb.out⟩
theorem contains_1 (l : List Vl) (n : Nat) (hn : n = l.length) (hl : n ≤ 4000000) (hv : ∀ i, i < n → 0 ≤ (l.getD i default).b) (p : Slc) (B : Nat) (w : World) (h1 : VlsAt w B p l) (hB : B ≤ w.heap.size) :
    Calls Try.prog 72 #[.slice p.1 n p.2, .func (.func 73) #[] #[]] w fun e w' => e = .returned (.bool (!l.all vOk)) ∧ Below w.heap.size w w' := by
  have Hi := Lib.hid (index_1 l n hn hl hv p B w h1 hB)
  clear h1 hv hn
  obtain ⟨A, c⟩ := p
  dsimp only at *
  generalize l.all vOk = q at *
  go_enter Try.func72, Try.ntmps72
  go_wp2_with fail
  refine Hi.out.mono ?_
  rintro e w1 ⟨⟨k, rfl, hk⟩, hb⟩
  have HB := Lib.hid hb
  have HK := Lib.hid hk
  clear hb hk Hi
  go_wp2_with fail
  go_ret
  exact ⟨ret_bool (by rw [HK.out]; by_cases h : k < 0 <;> simp [h] <;> omega), HB.out⟩
set_option maxRecDepth 100000 in
theorem notok_2 (v : Vl) (hb : 0 ≤ v.b) (w : World) : Calls Try.prog 75 #[vav v] w fun e w' => e = .returned (.bool (!vOk v)) ∧ Below w.heap.size w w' := by
  have hm := Lib.hid (valid_any v hb)
  unfold vav at *
  generalize vOk v = r at *
  obtain ⟨t, b⟩ := v
  dsimp only at *
  have HB := Lib.hid (below_alloc w (.cells #[.int .u8 t, .int .u64 b] 51))
  go_enter Try.func75, Try.ntmps75
  go_wp2_with fail
  refine (hm.out _).mono ?_
  rintro e w1 ⟨rfl, hb1⟩
  have H1 := Lib.hid (HB.out.trans (hb1.mono HB.out.size))
  clear hb1
  go_wp2_with fail
  go_ret
  exact ⟨rfl, H1.out⟩
/-- the place of the first that may not be; -1: all may. -/
theorem index_2 (l : List Vl) (n : Nat) (hn : n = l.length) (hl : n ≤ 4000000) (hv : ∀ i, i < n → 0 ≤ (l.getD i default).b) (p : Slc) (B : Nat) (w : World) (h1 : VlsAt w B p l) (hB : B ≤ w.heap.size) :
    Calls Try.prog 85 #[.slice p.1 n p.2, .func (.func 75) #[] #[]] w fun e w' => (∃ k : Int, e = .returned (.int .i64 k) ∧ l.all vOk = decide (k < 0)) ∧ Below w.heap.size w w' := by
  obtain ⟨A, c⟩ := p
  have H1 := Lib.hid h1; have N1 := Lib.hid hn; have HV := Lib.hid hv
  clear h1 hn hv
  go_enter Try.func85, Try.ntmps85
  go_wp2_with fail
  go_loopw [8] (fun iv wr => ∃ k : Nat, k ≤ n ∧ iv = .int .i64 k ∧ (∀ i, i < k → vOk (l.getD i default) = true) ∧ Below w.heap.size w wr) (fun iv _ => n - (intOf iv).toNat)
  case atStart => exact ⟨0, by omega, rfl, fun i hi => by omega, Below.refl _ _⟩
  case round =>
    obtain ⟨k, hk, rfl, hall, hb⟩ := hrel
    have Hall := Lib.hid hall; have Hb := Lib.hid hb
    clear hall hb
    by_cases hlt : k < n
    · obtain ⟨b, o, rfl, hb1, x0, x1⟩ := VlsAt.cells H1.out (show k < l.length by rw [← N1.out]; exact hlt)
      have y0 := (Hb.out.cell (p := ⟨b, _, none⟩) (Nat.lt_of_lt_of_le hb1 hB)).trans x0
      have y1 := (Hb.out.cell (p := ⟨b, _, none⟩) (Nat.lt_of_lt_of_le hb1 hB)).trans x1
      have HC := Lib.hid (notok_2 (l.getD k default) (HV.out k hlt))
      have HA1 : Hid (vOk (l.getD k default) = true → ∀ i, i < k + 1 → vOk (l.getD i default) = true) := Lib.hid (fun h i hi => by
        by_cases e : i = k
        · rw [e]; exact h
        · exact Hall.out i (by omega))
      have HF1 : Hid (vOk (l.getD k default) = false → l.all vOk = false) := Lib.hid (fun h => all_not (by rw [← N1.out]; exact hlt) h)
      clear x0 x1
      unfold vav at HC
      generalize vOk (l.getD k default) = r at *
      generalize l.getD k default = a at *
      obtain ⟨t, bb⟩ := a
      dsimp only at *
      go_wp2_with fail
      refine (HC.out _).mono ?_
      rintro e w1 ⟨rfl, hb1⟩
      have H2 := Lib.hid (Hb.out.trans (hb1.mono Hb.out.size))
      clear hb1 y0 y1
      cases r
      · have HN := Lib.hid (HF1.out rfl)
        go_wp2_with fail
        go_ret
        exact ⟨⟨k, rfl, by rw [HN.out, decide_eq_false (by omega)]⟩, H2.out⟩
      · go_wp2_with fail
        go_roundw
        case rel => exact ⟨k + 1, by omega, by go_num, HA1.out (by trivial), H2.out⟩
        case measure => simp [intOf]; omega
    · obtain rfl : k = n := by omega
      have HN : Hid (l.all vOk = true) := Lib.hid (all_of (by rw [← N1.out]; exact Hall.out))
      go_wp2_with fail
      go_ret
      exact ⟨⟨-1, rfl, by rw [HN.out, decide_eq_true (by omega)]⟩, Hb.out⟩
theorem contains_2 (l : List Vl) (n : Nat) (hn : n = l.length) (hl : n ≤ 4000000) (hv : ∀ i, i < n → 0 ≤ (l.getD i default).b) (p : Slc) (B : Nat) (w : World) (h1 : VlsAt w B p l) (hB : B ≤ w.heap.size) :
    Calls Try.prog 72 #[.slice p.1 n p.2, .func (.func 75) #[] #[]] w fun e w' => e = .returned (.bool (!l.all vOk)) ∧ Below w.heap.size w w' := by
  have Hi := Lib.hid (index_2 l n hn hl hv p B w h1 hB)
  clear h1 hv hn
  obtain ⟨A, c⟩ := p
  dsimp only at *
  generalize l.all vOk = q at *
  go_enter Try.func72, Try.ntmps72
  go_wp2_with fail
  refine Hi.out.mono ?_
  rintro e w1 ⟨⟨k, rfl, hk⟩, hb⟩
  have HB := Lib.hid hb
  have HK := Lib.hid hk
  clear hb hk Hi
  go_wp2_with fail
  go_ret
  exact ⟨ret_bool (by rw [HK.out]; by_cases h : k < 0 <;> simp [h] <;> omega), HB.out⟩
end Go.Proofs.Ytbmpjphemjponaa
end

section
set_option linter.unusedSimpArgs false
set_option linter.unusedVariables false
namespace Go.Proofs.Ytbmpjphemjponaa
open Go.RowKit

def inv (i : Ins) : Value := .agg #[.int .u8 i.op, .int .i64 i.arg, .int .u8 i.l.t, .int .u64 i.l.b]
def cav (p q : Slc) (n m : Nat) (mt : Int) : Value := .agg #[.slice p.1 n p.2, .int .i64 mt, .slice q.1 m q.2]
set_option maxRecDepth 100000 in
set_option maxHeartbeats 1000000 in
theorem instr_any (ns nl nb nn : Nat) (mt st : Int) (p q p2 q2 : Slc) (i : Ins) (hb : 0 ≤ i.l.b) (h1 : ns ≤ 4000000) (h2 : nl ≤ 4000000) (w : World) :
    Calls Try.prog 78 #[cav p q ns nb mt, cav p2 q2 nl nn st, inv i] w fun e w' => e = .returned (.bool (inOk ns nl i)) ∧ Below w.heap.size w w' := by
  have H : Hid (inOk ns nl i = if i.op = 1 then decide (i.arg = 0) && vOk i.l else if i.op = 30 then wi i.arg nl && l0 i.l else if i.op = 31 then wi i.arg ns && l0 i.l
      else if isOp i.op then decide (i.arg = 0) && l0 i.l else false) := Lib.hid rfl
  have HV := Lib.hid (valid_any i.l hb)
  have HO := Lib.hid (operator_any i.op)
  have HL : Hid (l0 i.l = (decide (i.l.t = 0) && decide (i.l.b = 0))) := Lib.hid rfl
  have HW1 := Lib.hid (within_any i.arg nl); have HW2 := Lib.hid (within_any i.arg ns)
  unfold inv cav
  unfold vav at HV
  generalize inOk ns nl i = r at *
  generalize vOk i.l = r1 at *
  generalize l0 i.l = r2 at *
  generalize isOp i.op = r3 at *
  generalize wi i.arg nl = r4 at *
  generalize wi i.arg ns = r5 at *
  obtain ⟨op, arg, t, b⟩ := i
  obtain ⟨A, cp⟩ := p; obtain ⟨A', cp'⟩ := q; obtain ⟨A2, cp2⟩ := p2; obtain ⟨A2', cp2'⟩ := q2
  dsimp only at *
  generalize he0 : decide (arg = 0) = e0 at *
  have f0 : (arg == 0) = e0 := he0
  generalize he1 : decide (t = 0) = e1 at *
  have f1 : (t == 0) = e1 := he1
  generalize he2 : decide (b = 0) = e2 at *
  have f2 : (b == 0) = e2 := he2
  clear he0 he1 he2
  go_enter Try.func78, Try.ntmps78
  go_upto_region 1 with (fail)
  obtain ⟨b0_, b1_, b2_, hb_⟩ := boxes3 w (.cells #[.slice A ns cp, .int .i64 mt, .slice A' nb cp'] 25) (.cells #[.slice A2 nl cp2, .int .i64 st, .slice A2' nn cp2'] 57) (.cells #[.int .u8 op, .int .i64 arg, .int .u8 t, .int .u64 b] 53)
  generalize ((w.alloc (.cells #[.slice A ns cp, .int .i64 mt, .slice A' nb cp'] 25)).alloc (.cells #[.slice A2 nl cp2, .int .i64 st, .slice A2' nn cp2'] 57)).alloc (.cells #[.int .u8 op, .int .i64 arg, .int .u8 t, .int .u64 b] 53) = wx at *
  have T0 : Hid (∀ W, Below wx.heap.size wx W → W.cell? ⟨w.heap.size, 0, none⟩ = some (.slice A ns cp) ∧ W.cell? ⟨w.heap.size, 1, none⟩ = some (.int .i64 mt) ∧ W.cell? ⟨w.heap.size, 2, none⟩ = some (.slice A' nb cp')) := Lib.hid (fun W hW => by have e := (hW.block _ (lt_blk b0_)).trans b0_; exact ⟨by rw [cell_blk e]; rfl, by rw [cell_blk e]; rfl, by rw [cell_blk e]; rfl⟩)
  have T1 : Hid (∀ W, Below wx.heap.size wx W → W.cell? ⟨w.heap.size + 1, 0, none⟩ = some (.slice A2 nl cp2) ∧ W.cell? ⟨w.heap.size + 1, 1, none⟩ = some (.int .i64 st) ∧ W.cell? ⟨w.heap.size + 1, 2, none⟩ = some (.slice A2' nn cp2')) := Lib.hid (fun W hW => by have e := (hW.block _ (lt_blk b1_)).trans b1_; exact ⟨by rw [cell_blk e]; rfl, by rw [cell_blk e]; rfl, by rw [cell_blk e]; rfl⟩)
  have T2 : Hid (∀ W, Below wx.heap.size wx W → W.cell? ⟨w.heap.size + 1 + 1, 0, none⟩ = some (.int .u8 op) ∧ W.cell? ⟨w.heap.size + 1 + 1, 1, none⟩ = some (.int .i64 arg) ∧ W.cell? ⟨w.heap.size + 1 + 1, 2, none⟩ = some (.int .u8 t) ∧ W.cell? ⟨w.heap.size + 1 + 1, 3, none⟩ = some (.int .u64 b)) := Lib.hid (fun W hW => by have e := (hW.block _ (lt_blk b2_)).trans b2_; exact ⟨by rw [cell_blk e]; rfl, by rw [cell_blk e]; rfl, by rw [cell_blk e]; rfl, by rw [cell_blk e]; rfl⟩)
  have BA := Lib.hid hb_
  clear hb_ b0_ b1_ b2_
  have HL2 : Hid (r2 = (e1 && e2)) := HL
  clear HL
  cases e1 <;> cases e2
  all_goals
    apply wp_region_relH (H := []) 9 [(Sum.inl _ : TT), (Sum.inl _ : TT), (Sum.inl _ : TT), (Sum.inl _ : TT), (Sum.inl _ : TT), (Sum.inl _ : TT), (Sum.inl _ : TT), (Sum.inl _ : TT), (Sum.inl _ : TT)] (by kernel_rfl) (by kernel_rfl) (fun _ _ _ _ _ h => h) rfl
    simp only [List.take_succ_cons, List.take_zero, List.drop_succ_cons, List.drop_zero]
    iterate 9 (apply rel_isS; (intro W hW hf; obtain ⟨u0, u1, u2, u3⟩ := T2.out W hW; go_simp; first | exact ⟨StayS.refl _ _, rfl⟩ | rfl); simp only [Act.put, List.setIfInBounds_toArray, List.set_cons_succ, List.set_cons_zero])
    refine rel_endS ?_
    intro W hW hf
    try simp only [Act.put, List.setIfInBounds_toArray, List.set_cons_succ, List.set_cons_zero]
    refine wpList_nil ?_
    have HW := Lib.hid (BA.out.trans (hW.mono BA.out.size))
    obtain ⟨u0, u1, u2, u3⟩ := T2.out W hW
    obtain ⟨x0, -, -⟩ := T0.out W hW
    obtain ⟨y0, -, -⟩ := T1.out W hW
    clear hW hf T0 T1 T2
    by_cases g1 : op = 1
    · subst g1
      have HN : Hid (r = (e0 && r1)) := Lib.hid (by rw [H.out]; rfl)
      clear H HO HW1 HW2
      go_wp2_with fail
      refine (HV.out _).mono ?_
      rintro e w1 ⟨rfl, hb1⟩
      have HW := Lib.hid (HW.out.trans (hb1.mono HW.out.size))
      clear hb1 u0 u1 u2 u3 x0 y0
      cases e0 <;> cases r1
      all_goals
        go_wp2_with fail
        go_ret
        exact ⟨ret_bool HN.out.symm, HW.out⟩
    by_cases g2 : op = 30
    · subst g2
      have HN : Hid (r = (r4 && r2)) := Lib.hid (by rw [H.out]; rfl)
      clear H HO HV HW2
      go_wp2_with fail
      refine (HW1.out _).mono ?_
      rintro e w1 ⟨rfl, rfl⟩
      clear u0 u1 u2 u3 x0 y0
      cases r4
      all_goals
        go_wp2_with fail
        go_ret
        exact ⟨ret_bool (by rw [HN.out, HL2.out]; rfl), HW.out⟩
    by_cases g3 : op = 31
    · subst g3
      have HN : Hid (r = (r5 && r2)) := Lib.hid (by rw [H.out]; rfl)
      clear H HO HV HW1
      go_wp2_with fail
      refine (HW2.out _).mono ?_
      rintro e w1 ⟨rfl, rfl⟩
      clear u0 u1 u2 u3 x0 y0
      cases r5
      all_goals
        go_wp2_with fail
        go_ret
        exact ⟨ret_bool (by rw [HN.out, HL2.out]; rfl), HW.out⟩
    have HN : Hid (r = if r3 then e0 && r2 else false) := Lib.hid (by rw [H.out, if_neg g1, if_neg g2, if_neg g3])
    have d1 : (op == 1) = false := by simpa using g1
    have d2 : (op == 30) = false := by simpa using g2
    have d3 : (op == 31) = false := by simpa using g3
    clear H HV HW1 HW2 g1 g2 g3
    go_wp2_with fail
    refine (HO.out _).mono ?_
    rintro e w1 ⟨rfl, rfl⟩
    clear u0 u1 u2 u3 x0 y0
    cases r3 <;> cases e0
    all_goals
      go_wp2_with fail
      go_ret
      exact ⟨ret_bool (by rw [HN.out, HL2.out]; rfl), HW.out⟩
end Go.Proofs.Ytbmpjphemjponaa
end

section
set_option linter.unusedSimpArgs false
set_option linter.unusedVariables false
namespace Go.Proofs.Ytbmpjphemjponaa
open Go.RowKit

set_option maxRecDepth 100000 in
set_option maxHeartbeats 1000000 in
theorem node_any (ns nl nb nn : Nat) (mt st : Int) (p q p2 q2 p3 : Slc) (n : Nd) (h1 : ns ≤ 4000000) (h2 : nl ≤ 4000000) (h3 : nn ≤ 4000000) (w : World) :
    Calls Try.prog 79 #[cav p q ns nb mt, cav p2 q2 nl nn st, ndv n p3] w fun e w' => e = .returned (.bool (ndOk ns nl nn mt n)) ∧ Below w.heap.size w w' := by
  have H : Hid (ndOk ns nl nn mt n = ((decide (1 ≤ n.kind) && decide (n.kind ≤ 7)) && ((if n.kind = 1 then wi n.arg nl else if n.kind = 2 then wi n.arg ns else if n.kind = 3 ∨ n.kind = 4 then wi n.arg mt else decide (n.arg = 0)) && (wi n.next (nn + 1) && (if n.kind = 6 then wi n.alt (nn + 1) else decide (n.alt = 0)))))) := Lib.hid rfl
  have HW1 := Lib.hid (within_any n.arg nl); have HW2 := Lib.hid (within_any n.arg ns); have HW3 := Lib.hid (within_any n.arg mt); have HW4 := Lib.hid (within_any n.next (nn + 1)); have HW5 := Lib.hid (within_any n.alt (nn + 1))
  unfold cav ndv
  generalize ndOk ns nl nn mt n = r at *
  generalize wi n.arg nl = r1 at *
  generalize wi n.arg ns = r2 at *
  generalize wi n.arg mt = r3 at *
  generalize wi n.next (nn + 1) = r4 at *
  generalize wi n.alt (nn + 1) = r5 at *
  obtain ⟨cd, kind, arg, next, alt⟩ := n
  obtain ⟨A, cp⟩ := p; obtain ⟨A', cp'⟩ := q; obtain ⟨A2, cp2⟩ := p2; obtain ⟨A2', cp2'⟩ := q2; obtain ⟨A3, cp3⟩ := p3
  dsimp only at *
  generalize cd.length = nc at *
  generalize he0 : decide (arg = 0) = e0 at *
  have f0 : (arg == 0) = e0 := he0
  generalize he1 : decide (alt = 0) = e1 at *
  have f1 : (alt == 0) = e1 := he1
  clear he0 he1
  go_enter Try.func79, Try.ntmps79
  go_upto_region 1 with (fail)
  obtain ⟨b0_, b1_, b2_, hb_⟩ := boxes3 w (.cells #[.slice A ns cp, .int .i64 mt, .slice A' nb cp'] 25) (.cells #[.slice A2 nl cp2, .int .i64 st, .slice A2' nn cp2'] 57) (.cells #[.slice A3 nc cp3, .int .i64 kind, .int .i64 arg, .int .i64 next, .int .i64 alt] 60)
  generalize ((w.alloc (.cells #[.slice A ns cp, .int .i64 mt, .slice A' nb cp'] 25)).alloc (.cells #[.slice A2 nl cp2, .int .i64 st, .slice A2' nn cp2'] 57)).alloc (.cells #[.slice A3 nc cp3, .int .i64 kind, .int .i64 arg, .int .i64 next, .int .i64 alt] 60) = wx at *
  have T0 : Hid (∀ W, Below wx.heap.size wx W → W.cell? ⟨w.heap.size, 0, none⟩ = some (.slice A ns cp) ∧ W.cell? ⟨w.heap.size, 1, none⟩ = some (.int .i64 mt) ∧ W.cell? ⟨w.heap.size, 2, none⟩ = some (.slice A' nb cp')) := Lib.hid (fun W hW => by have e := (hW.block _ (lt_blk b0_)).trans b0_; exact ⟨by rw [cell_blk e]; rfl, by rw [cell_blk e]; rfl, by rw [cell_blk e]; rfl⟩)
  have T1 : Hid (∀ W, Below wx.heap.size wx W → W.cell? ⟨w.heap.size + 1, 0, none⟩ = some (.slice A2 nl cp2) ∧ W.cell? ⟨w.heap.size + 1, 1, none⟩ = some (.int .i64 st) ∧ W.cell? ⟨w.heap.size + 1, 2, none⟩ = some (.slice A2' nn cp2')) := Lib.hid (fun W hW => by have e := (hW.block _ (lt_blk b1_)).trans b1_; exact ⟨by rw [cell_blk e]; rfl, by rw [cell_blk e]; rfl, by rw [cell_blk e]; rfl⟩)
  have T2 : Hid (∀ W, Below wx.heap.size wx W → W.cell? ⟨w.heap.size + 1 + 1, 0, none⟩ = some (.slice A3 nc cp3) ∧ W.cell? ⟨w.heap.size + 1 + 1, 1, none⟩ = some (.int .i64 kind) ∧ W.cell? ⟨w.heap.size + 1 + 1, 2, none⟩ = some (.int .i64 arg) ∧ W.cell? ⟨w.heap.size + 1 + 1, 3, none⟩ = some (.int .i64 next) ∧ W.cell? ⟨w.heap.size + 1 + 1, 4, none⟩ = some (.int .i64 alt)) := Lib.hid (fun W hW => by have e := (hW.block _ (lt_blk b2_)).trans b2_; exact ⟨by rw [cell_blk e]; rfl, by rw [cell_blk e]; rfl, by rw [cell_blk e]; rfl, by rw [cell_blk e]; rfl, by rw [cell_blk e]; rfl⟩)
  have BA := Lib.hid hb_
  clear hb_ b0_ b1_ b2_
  obtain ⟨x0, x1, -⟩ := T0.out wx (Below.refl _ _)
  obtain ⟨y0, -, y2⟩ := T1.out wx (Below.refl _ _)
  obtain ⟨-, z1, z2, z3, z4⟩ := T2.out wx (Below.refl _ _)
  clear T0 T1 T2
  by_cases g1 : kind = 1
  · subst g1
    have HN : Hid (r = (r1 && (r4 && e1))) := Lib.hid H.out
    clear H
    go_wp2_with fail
    refine (HW1.out _).mono ?_
    rintro e w1 ⟨rfl, rfl⟩
    go_wp2_with fail
    refine (HW4.out _).mono ?_
    rintro e w1 ⟨rfl, rfl⟩
    cases r1 <;> cases r4
    all_goals
      go_wp2_with fail
      go_ret
      exact ⟨ret_bool HN.out.symm, BA.out⟩
  by_cases g2 : kind = 2
  · subst g2
    have HN : Hid (r = (r2 && (r4 && e1))) := Lib.hid H.out
    clear H
    go_wp2_with fail
    refine (HW2.out _).mono ?_
    rintro e w1 ⟨rfl, rfl⟩
    go_wp2_with fail
    refine (HW4.out _).mono ?_
    rintro e w1 ⟨rfl, rfl⟩
    cases r2 <;> cases r4
    all_goals
      go_wp2_with fail
      go_ret
      exact ⟨ret_bool HN.out.symm, BA.out⟩
  by_cases g3 : kind = 3
  · subst g3
    have HN : Hid (r = (r3 && (r4 && e1))) := Lib.hid H.out
    clear H
    go_wp2_with fail
    refine (HW3.out _).mono ?_
    rintro e w1 ⟨rfl, rfl⟩
    go_wp2_with fail
    refine (HW4.out _).mono ?_
    rintro e w1 ⟨rfl, rfl⟩
    cases r3 <;> cases r4
    all_goals
      go_wp2_with fail
      go_ret
      exact ⟨ret_bool HN.out.symm, BA.out⟩
  by_cases g4 : kind = 4
  · subst g4
    have HN : Hid (r = (r3 && (r4 && e1))) := Lib.hid H.out
    clear H
    go_wp2_with fail
    refine (HW3.out _).mono ?_
    rintro e w1 ⟨rfl, rfl⟩
    go_wp2_with fail
    refine (HW4.out _).mono ?_
    rintro e w1 ⟨rfl, rfl⟩
    cases r3 <;> cases r4
    all_goals
      go_wp2_with fail
      go_ret
      exact ⟨ret_bool HN.out.symm, BA.out⟩
  by_cases g5 : kind = 5
  · subst g5
    have HN : Hid (r = (e0 && (r4 && e1))) := Lib.hid H.out
    clear H
    go_wp2_with fail
    refine (HW4.out _).mono ?_
    rintro e w1 ⟨rfl, rfl⟩
    cases e0 <;> cases r4
    all_goals
      go_wp2_with fail
      go_ret
      exact ⟨ret_bool HN.out.symm, BA.out⟩
  by_cases g7 : kind = 7
  · subst g7
    have HN : Hid (r = (e0 && (r4 && e1))) := Lib.hid H.out
    clear H
    go_wp2_with fail
    refine (HW4.out _).mono ?_
    rintro e w1 ⟨rfl, rfl⟩
    cases e0 <;> cases r4
    all_goals
      go_wp2_with fail
      go_ret
      exact ⟨ret_bool HN.out.symm, BA.out⟩
  by_cases g6 : kind = 6
  · subst g6
    have HN : Hid (r = (e0 && (r4 && r5))) := Lib.hid H.out
    clear H
    go_wp2_with fail
    refine (HW4.out _).mono ?_
    rintro e w1 ⟨rfl, rfl⟩
    cases e0 <;> cases r4
    all_goals
      go_wp2_with fail
      try
        refine (HW5.out _).mono ?_
        rintro e w1 ⟨rfl, rfl⟩
        go_wp2_with fail
      go_ret
      exact ⟨ret_bool HN.out.symm, BA.out⟩
  have HN : Hid (r = false) := Lib.hid (by
    rw [H.out]
    by_cases a : 1 ≤ kind
    · rw [decide_eq_false (show ¬ kind ≤ 7 by omega)]; simp
    · rw [decide_eq_false a]; rfl)
  have d1 : (kind == 1) = false := by simpa using g1
  have d2 : (kind == 2) = false := by simpa using g2
  have d3 : (kind == 3) = false := by simpa using g3
  have d4 : (kind == 4) = false := by simpa using g4
  have d5 : (kind == 5) = false := by simpa using g5
  have d6 : (kind == 6) = false := by simpa using g6
  have d7 : (kind == 7) = false := by simpa using g7
  clear g1 g2 g3 g4 g5 g6 g7 H
  go_wp2_with fail
  go_ret
  exact ⟨ret_bool HN.out.symm, BA.out⟩
/-! ### instructions, one by one -/
/-- the two variables that the function takes with it. -/
def Two (w : World) (L g1 g2 : Nat) (V1 V2 : Array Value) : Prop := ∀ W, Below L w W → W.heap[g1]? = some (.cells V1 25 (0, 0)) ∧ W.heap[g2]? = some (.cells V2 57 (0, 0))
theorem Two.of {w : World} {g1 g2 : Nat} {V1 V2 : Array Value} (h1 : w.heap[g1]? = some (.cells V1 25 (0, 0))) (h2 : w.heap[g2]? = some (.cells V2 57 (0, 0))) : Two w w.heap.size g1 g2 V1 V2 := fun W hW =>
  ⟨(hW.block _ (lt_blk h1)).trans h1, (hW.block _ (lt_blk h2)).trans h2⟩
set_option maxRecDepth 100000 in
set_option maxHeartbeats 1000000 in
theorem notin_any (ns nl nb nn : Nat) (mt st : Int) (p q p2 q2 : Slc) (g1 g2 : Nat) (i : Ins) (hb : 0 ≤ i.l.b) (h1 : ns ≤ 4000000) (h2 : nl ≤ 4000000) (w : World)
    (hc : w.heap[g1]? = some (.cells #[.slice p.1 ns p.2, .int .i64 mt, .slice q.1 nb q.2] 25 (0, 0))) (hd : w.heap[g2]? = some (.cells #[.slice p2.1 nl p2.2, .int .i64 st, .slice q2.1 nn q2.2] 57 (0, 0))) :
    Calls Try.prog 77 #[inv i, .pointer (some ⟨g1, 0, none⟩), .pointer (some ⟨g2, 0, none⟩)] w fun e w' => e = .returned (.bool (!inOk ns nl i)) ∧ Below w.heap.size w w' := by
  have HI := Lib.hid (fun W => instr_any ns nl nb nn mt st p q p2 q2 i hb h1 h2 W)
  have HC := Lib.hid hc; have HD := Lib.hid hd
  clear hc hd
  unfold inv cav at *
  generalize inOk ns nl i = r at *
  obtain ⟨op, arg, t, b⟩ := i
  obtain ⟨A, cp⟩ := p; obtain ⟨A', cp'⟩ := q; obtain ⟨A2, cp2⟩ := p2; obtain ⟨A2', cp2'⟩ := q2
  dsimp only at *
  go_enter Try.func77, Try.ntmps77
  go_upto_region 1 with (fail)
  obtain ⟨b0_, hb_⟩ := boxes1 w (.cells #[.int .u8 op, .int .i64 arg, .int .u8 t, .int .u64 b] 53)
  generalize w.alloc (.cells #[.int .u8 op, .int .i64 arg, .int .u8 t, .int .u64 b] 53) = wx at *
  have T2 : Hid (∀ W, Below wx.heap.size wx W → W.cell? ⟨w.heap.size, 0, none⟩ = some (.int .u8 op) ∧ W.cell? ⟨w.heap.size, 1, none⟩ = some (.int .i64 arg) ∧ W.cell? ⟨w.heap.size, 2, none⟩ = some (.int .u8 t) ∧ W.cell? ⟨w.heap.size, 3, none⟩ = some (.int .u64 b)) := Lib.hid (fun W hW => by have e := (hW.block _ (lt_blk b0_)).trans b0_; exact ⟨by rw [cell_blk e]; rfl, by rw [cell_blk e]; rfl, by rw [cell_blk e]; rfl, by rw [cell_blk e]; rfl⟩)
  have BA := Lib.hid hb_
  clear hb_ b0_
  obtain ⟨z0, z1, z2, z3⟩ := T2.out wx (Below.refl _ _)
  have e1 := (BA.out.block _ (lt_blk HC.out)).trans HC.out
  have e2 := (BA.out.block _ (lt_blk HD.out)).trans HD.out
  have x0 : wx.cell? ⟨g1, 0, none⟩ = some (.slice A ns cp) := by rw [cell_blk e1]; rfl
  have x1 : wx.cell? ⟨g1, 1, none⟩ = some (.int .i64 mt) := by rw [cell_blk e1]; rfl
  have x2 : wx.cell? ⟨g1, 2, none⟩ = some (.slice A' nb cp') := by rw [cell_blk e1]; rfl
  have y0 : wx.cell? ⟨g2, 0, none⟩ = some (.slice A2 nl cp2) := by rw [cell_blk e2]; rfl
  have y1 : wx.cell? ⟨g2, 1, none⟩ = some (.int .i64 st) := by rw [cell_blk e2]; rfl
  have y2 : wx.cell? ⟨g2, 2, none⟩ = some (.slice A2' nn cp2') := by rw [cell_blk e2]; rfl
  clear e1 e2 T2
  go_wp2_with fail
  refine (HI.out _).mono ?_
  rintro e w1 ⟨rfl, hb1⟩
  have HW := Lib.hid (BA.out.trans (hb1.mono BA.out.size))
  clear hb1 x0 x1 x2 y0 y1 y2 z0 z1 z2 z3
  go_wp2_with fail
  go_ret
  exact ⟨rfl, HW.out⟩
set_option maxRecDepth 100000 in
set_option maxHeartbeats 1000000 in
theorem index_ins (ns nl nb nn : Nat) (mt st : Int) (p q p2 q2 : Slc) (g1 g2 : Nat) (h1 : ns ≤ 4000000) (h2 : nl ≤ 4000000) (l : List Ins) (n : Nat) (hn : n = l.length) (hl : n ≤ 4000000) (hv : ∀ i, i < n → 0 ≤ (l.getD i default).l.b) (r : Slc) (B : Nat) (w : World) (hi : InsAt w B r l) (hB : B ≤ w.heap.size)
    (hc : w.heap[g1]? = some (.cells #[.slice p.1 ns p.2, .int .i64 mt, .slice q.1 nb q.2] 25 (0, 0))) (hd : w.heap[g2]? = some (.cells #[.slice p2.1 nl p2.2, .int .i64 st, .slice q2.1 nn q2.2] 57 (0, 0))) :
    Calls Try.prog 87 #[.slice r.1 n r.2, .func (.func 77) #[] #[.pointer (some ⟨g1, 0, none⟩), .pointer (some ⟨g2, 0, none⟩)]] w fun e w' => (∃ k : Int, e = .returned (.int .i64 k) ∧ l.all (inOk ns nl) = decide (k < 0)) ∧ Below w.heap.size w w' := by
  have HC : Hid (∀ W, Below w.heap.size w W → ∀ i : Ins, 0 ≤ i.l.b → Calls Try.prog 77 #[inv i, .pointer (some ⟨g1, 0, none⟩), .pointer (some ⟨g2, 0, none⟩)] W fun e w' => e = .returned (.bool (!inOk ns nl i)) ∧ Below W.heap.size W w') := Lib.hid (fun W hW i h => notin_any ns nl nb nn mt st p q p2 q2 g1 g2 i h h1 h2 W ((hW.block _ (lt_blk hc)).trans hc) ((hW.block _ (lt_blk hd)).trans hd))
  clear hc hd
  obtain ⟨A, c⟩ := r
  have H1 := Lib.hid hi; have N1 := Lib.hid hn; have HV := Lib.hid hv
  clear hi hn hv
  generalize inOk ns nl = f at *
  go_enter Try.func87, Try.ntmps87
  go_wp2_with fail
  go_loopw [8] (fun iv wr => ∃ k : Nat, k ≤ n ∧ iv = .int .i64 k ∧ (∀ i, i < k → f (l.getD i default) = true) ∧ Below w.heap.size w wr) (fun iv _ => n - (intOf iv).toNat)
  case atStart => exact ⟨0, by omega, rfl, fun i hi => by omega, Below.refl _ _⟩
  case round =>
    obtain ⟨k, hk, rfl, hall, hb⟩ := hrel
    have Hall := Lib.hid hall; have Hb := Lib.hid hb
    clear hall hb
    by_cases hlt : k < n
    · obtain ⟨b, o, rfl, hb1, x0, x1, x2, x3⟩ := InsAt.cells H1.out (show k < l.length by rw [← N1.out]; exact hlt)
      have y0 := (Hb.out.cell (p := ⟨b, _, none⟩) (Nat.lt_of_lt_of_le hb1 hB)).trans x0
      have y1 := (Hb.out.cell (p := ⟨b, _, none⟩) (Nat.lt_of_lt_of_le hb1 hB)).trans x1
      have y2 := (Hb.out.cell (p := ⟨b, _, none⟩) (Nat.lt_of_lt_of_le hb1 hB)).trans x2
      have y3 := (Hb.out.cell (p := ⟨b, _, none⟩) (Nat.lt_of_lt_of_le hb1 hB)).trans x3
      have HC1 := Lib.hid (HC.out wr Hb.out (l.getD k default) (HV.out k hlt))
      have HA1 : Hid (f (l.getD k default) = true → ∀ i, i < k + 1 → f (l.getD i default) = true) := Lib.hid (fun h i hi => by
        by_cases e : i = k
        · rw [e]; exact h
        · exact Hall.out i (by omega))
      have HF1 : Hid (f (l.getD k default) = false → l.all f = false) := Lib.hid (fun h => all_not (by rw [← N1.out]; exact hlt) h)
      clear x0 x1 x2 x3
      unfold inv at HC1
      generalize f (l.getD k default) = r at *
      generalize l.getD k default = a at *
      obtain ⟨op, arg, t, bb⟩ := a
      dsimp only at *
      go_wp2_with fail
      refine HC1.out.mono ?_
      rintro e w1 ⟨rfl, hb1⟩
      have H2 := Lib.hid (Hb.out.trans (hb1.mono Hb.out.size))
      clear hb1 y0 y1 y2 y3
      cases r
      · have HN := Lib.hid (HF1.out rfl)
        go_wp2_with fail
        go_ret
        exact ⟨⟨k, rfl, by rw [HN.out, decide_eq_false (by omega)]⟩, H2.out⟩
      · go_wp2_with fail
        go_roundw
        case rel => exact ⟨k + 1, by omega, by go_num, HA1.out (by trivial), H2.out⟩
        case measure => simp [intOf]; omega
    · obtain rfl : k = n := by omega
      have HN : Hid (l.all f = true) := Lib.hid (all_of (by rw [← N1.out]; exact Hall.out))
      go_wp2_with fail
      go_ret
      exact ⟨⟨-1, rfl, by rw [HN.out, decide_eq_true (by omega)]⟩, Hb.out⟩
set_option maxRecDepth 100000 in
theorem contains_ins (ns nl nb nn : Nat) (mt st : Int) (p q p2 q2 : Slc) (g1 g2 : Nat) (h1 : ns ≤ 4000000) (h2 : nl ≤ 4000000) (l : List Ins) (n : Nat) (hn : n = l.length) (hl : n ≤ 4000000) (hv : ∀ i, i < n → 0 ≤ (l.getD i default).l.b) (r : Slc) (B : Nat) (w : World) (hi : InsAt w B r l) (hB : B ≤ w.heap.size)
    (hc : w.heap[g1]? = some (.cells #[.slice p.1 ns p.2, .int .i64 mt, .slice q.1 nb q.2] 25 (0, 0))) (hd : w.heap[g2]? = some (.cells #[.slice p2.1 nl p2.2, .int .i64 st, .slice q2.1 nn q2.2] 57 (0, 0))) :
    Calls Try.prog 76 #[.slice r.1 n r.2, .func (.func 77) #[] #[.pointer (some ⟨g1, 0, none⟩), .pointer (some ⟨g2, 0, none⟩)]] w fun e w' => e = .returned (.bool (!l.all (inOk ns nl))) ∧ Below w.heap.size w w' := by
  have Hi := Lib.hid (index_ins ns nl nb nn mt st p q p2 q2 g1 g2 h1 h2 l n hn hl hv r B w hi hB hc hd)
  clear hi hv hn hc hd
  obtain ⟨A, c⟩ := r
  dsimp only at *
  generalize l.all (inOk ns nl) = q at *
  go_enter Try.func76, Try.ntmps76
  go_wp2_with fail
  refine Hi.out.mono ?_
  rintro e w1 ⟨⟨k, rfl, hk⟩, hb⟩
  have HB := Lib.hid hb
  have HK := Lib.hid hk
  clear hb hk Hi
  go_wp2_with fail
  go_ret
  exact ⟨ret_bool (by rw [HK.out]; by_cases h : k < 0 <;> simp [h] <;> omega), HB.out⟩
end Go.Proofs.Ytbmpjphemjponaa
end

section
set_option linter.unusedSimpArgs false
set_option linter.unusedVariables false
namespace Go.Proofs.Ytbmpjphemjponaa
open Go.RowKit

set_option maxRecDepth 100000 in
set_option maxHeartbeats 4000000 in
theorem fits_any (c : Cd) (s : CdSmall c) (hp : CdIn c) (p p2 : Slc) (B : Nat) (w : World) (h1 : VlsAt w B p c.shared) (h2 : BdsAt w B p2 c.bodies) (hB : B ≤ w.heap.size) :
    Calls Try.prog 53 #[cdv c p p2] w fun e w' => e = .returned (.bool (cdFit c)) ∧ Below w.heap.size w w' := by
  have HS := Lib.hid (fun W (h : Below w.heap.size w W) => contains_1 c.shared c.shared.length rfl s.1 (fun i hi => (hp.1 i hi).2.1) p B W (h1.below (h.mono hB)) (Nat.le_trans hB h.size))
  have H2 := Lib.hid h2
  have W1 := Lib.hid s.2.2
  have P1 := Lib.hid hp.2
  have L1 := s.1; have L2 := s.2.1
  have HR : Hid (cdFit c = (decide (0 ≤ c.mutexes) && (decide (c.mutexes ≤ 16) && (c.shared.all vOk && c.bodies.all (bdFit c.shared.length c.mutexes))))) := Lib.hid rfl
  clear h1 h2 s hp
  unfold cdv
  generalize cdFit c = res at *
  obtain ⟨sh, mt, bs⟩ := c
  obtain ⟨A, cp⟩ := p
  obtain ⟨A', cp'⟩ := p2
  dsimp only at *
  generalize sh.all vOk = qs at *
  generalize sh.length = n1 at *
  generalize hn2 : bs.length = n2 at *
  have N2 := Lib.hid hn2
  clear hn2
  go_enter Try.func53, Try.ntmps53
  go_upto_region 1 with (fail)
  obtain ⟨b0_, hb_⟩ := boxes1 w (.cells #[.slice A n1 cp, .int .i64 mt, .slice A' n2 cp'] 25)
  generalize w.alloc (.cells #[.slice A n1 cp, .int .i64 mt, .slice A' n2 cp'] 25) = w0 at *
  have T0b : Hid (∀ W, Below w0.heap.size w0 W → W.heap[w.heap.size]? = some (.cells #[.slice A n1 cp, .int .i64 mt, .slice A' n2 cp'] 25 (0, 0))) := Lib.hid (fun W hW => (hW.block _ (lt_blk b0_)).trans b0_)
  have T0 : Hid (∀ W, Below w0.heap.size w0 W → W.cell? ⟨w.heap.size, 0, none⟩ = some (.slice A n1 cp) ∧ W.cell? ⟨w.heap.size, 1, none⟩ = some (.int .i64 mt) ∧ W.cell? ⟨w.heap.size, 2, none⟩ = some (.slice A' n2 cp')) := Lib.hid (fun W hW => by have e := (hW.block _ (lt_blk b0_)).trans b0_; exact ⟨by rw [cell_blk e]; rfl, by rw [cell_blk e]; rfl, by rw [cell_blk e]; rfl⟩)
  have HB := Lib.hid hb_
  clear hb_ b0_
  obtain ⟨c0, c1, c2⟩ := T0.out w0 (Below.refl _ _)
  by_cases g1 : 0 ≤ mt
  rotate_left
  · have d1 : decide (mt < 0) = true := decide_eq_true (by omega)
    go_wp2_with fail
    go_ret
    exact ⟨ret_bool (by rw [HR.out, decide_eq_false (by omega)]; rfl), HB.out⟩
  have d1 : decide (mt < 0) = false := decide_eq_false (by omega)
  by_cases g2 : mt ≤ 16
  rotate_left
  · have d2 : decide (16 < mt) = true := decide_eq_true (by omega)
    go_wp2_with fail
    go_ret
    exact ⟨ret_bool (by rw [HR.out, decide_eq_false (show ¬ mt ≤ 16 by omega)]; simp), HB.out⟩
  have d2 : decide (16 < mt) = false := decide_eq_false (by omega)
  have HR1 : Hid (res = (qs && bs.all (bdFit n1 mt))) := Lib.hid (by rw [HR.out, decide_eq_true g1, decide_eq_true g2]; rfl)
  clear HR g1 g2
  go_wp2_with fail
  refine (HS.out _ HB.out).mono ?_
  rintro e w1 ⟨rfl, hb1⟩
  clear c0 c1 c2
  have G1 := Lib.hid hb1
  have HB1 := Lib.hid (HB.out.trans (hb1.mono HB.out.size))
  obtain ⟨c0, c1, c2⟩ := T0.out w1 hb1
  clear hb1 HS
  cases qs
  · go_wp2_with fail
    go_ret
    exact ⟨ret_bool (by rw [HR1.out]; rfl), HB1.out⟩
  have HR2 : Hid (res = bs.all (bdFit n1 mt)) := Lib.hid HR1.out
  clear HR1
  go_wp2_with fail
  clear c0 c1 c2 d1 d2
  go_loopw [23] (fun iv wr => ∃ k : Nat, k ≤ n2 ∧ iv = .int .i64 k ∧ Below w.heap.size w wr ∧ Below w0.heap.size w0 wr ∧ ∀ i, i < k → bdFit n1 mt (bs.getD i default) = true) (fun iv _ => n2 - (intOf iv).toNat)
  case atStart => exact ⟨0, by omega, rfl, HB1.out, G1.out, fun i hi => by omega⟩
  case round =>
    obtain ⟨wo, rfl⟩ : ∃ x, x = wr := ⟨wr, rfl⟩
    obtain ⟨k, hk, rfl, hb, hg, ho⟩ := hrel
    have Hb := Lib.hid hb
    have Hg := Lib.hid hg
    have Ho := Lib.hid ho
    clear hb hg ho
    by_cases hlt : k < n2
    · obtain ⟨b, o, ⟨P0, pc0⟩, ⟨Q1, qc1⟩, hA', hb1, x0, x1, x2, hv, hn⟩ := BdsAt.cells H2.out (show k < bs.length by rw [N2.out]; exact hlt)
      dsimp only at hA' x0 x2
      subst hA'
      have y0 := (Hb.out.cell (p := ⟨b, _, none⟩) (Nat.lt_of_lt_of_le hb1 hB)).trans x0
      have y1 := (Hb.out.cell (p := ⟨b, _, none⟩) (Nat.lt_of_lt_of_le hb1 hB)).trans x1
      have y2 := (Hb.out.cell (p := ⟨b, _, none⟩) (Nat.lt_of_lt_of_le hb1 hB)).trans x2
      have R1 := Lib.hid (W1.out k hlt)
      have R2 := Lib.hid (P1.out k hlt)
      have HI := Lib.hid hn
      have HV : Hid (∀ W, Below w.heap.size w W → Calls Try.prog 72 #[.slice P0 (bs.getD k default).locals.length pc0, .func (.func 75) #[] #[]] W fun e w' => e = .returned (.bool (!(bs.getD k default).locals.all vOk)) ∧ Below W.heap.size W w') := Lib.hid (fun W hW =>
        contains_2 (bs.getD k default).locals _ rfl R1.out.1 (fun i hi => (R2.out.1 i hi).2.1) (P0, pc0) B W (hv.below (hW.mono hB)) (Nat.le_trans hB hW.size))
      have HX : Hid (bdFit n1 mt (bs.getD k default) = false → res = false) := Lib.hid (fun h => by rw [HR2.out]; exact all_not (by rw [N2.out]; exact hlt) h)
      have HY : Hid (bdFit n1 mt (bs.getD k default) = true → ∀ i, i < k + 1 → bdFit n1 mt (bs.getD i default) = true) := Lib.hid (fun h i hi => by
        by_cases e : i = k
        · rw [e]; exact h
        · exact Ho.out i (by omega))
      have HD : Hid (bdFit n1 mt (bs.getD k default) = ((bs.getD k default).locals.all vOk && (decide (0 ≤ (bs.getD k default).stack) && (decide ((bs.getD k default).stack ≤ 64) && (bs.getD k default).nodes.all (ndFit n1 (bs.getD k default).locals.length (bs.getD k default).nodes.length mt))))) := Lib.hid rfl
      clear x0 x1 x2 hv hn
      generalize bdFit n1 mt (bs.getD k default) = rb at *
      generalize bs.getD k default = a at *
      obtain ⟨al, ks, an⟩ := a
      dsimp only at *
      have L3 : al.length ≤ 4000000 := R1.out.1
      have L4 : an.length ≤ 4000000 := R1.out.2.1
      have R1n : Hid (∀ j, j < an.length → (an.getD j default).code.length ≤ 4000000) := Lib.hid R1.out.2.2
      have R2n : Hid (∀ j, j < an.length → IsIn (an.getD j default).code) := Lib.hid R2.out.2
      clear R1 R2
      generalize al.all vOk = qv at *
      generalize al.length = l1 at *
      generalize hl3 : an.length = l3 at *
      have M3 := Lib.hid hl3
      clear hl3
      go_upto_region 6 with (fail)
      clear y0 y1 y2
      obtain ⟨b0_, hb_⟩ := boxes1 wo (.cells #[.slice P0 l1 pc0, .int .i64 ks, .slice Q1 l3 qc1] 57)
      generalize wo.alloc (.cells #[.slice P0 l1 pc0, .int .i64 ks, .slice Q1 l3 qc1] 57) = wa at *
      have Tab : Hid (∀ W, Below wa.heap.size wa W → W.heap[wo.heap.size]? = some (.cells #[.slice P0 l1 pc0, .int .i64 ks, .slice Q1 l3 qc1] 57 (0, 0))) := Lib.hid (fun W hW => (hW.block _ (lt_blk b0_)).trans b0_)
      have Ta : Hid (∀ W, Below wa.heap.size wa W → W.cell? ⟨wo.heap.size, 0, none⟩ = some (.slice P0 l1 pc0) ∧ W.cell? ⟨wo.heap.size, 1, none⟩ = some (.int .i64 ks) ∧ W.cell? ⟨wo.heap.size, 2, none⟩ = some (.slice Q1 l3 qc1)) := Lib.hid (fun W hW => by have e := (hW.block _ (lt_blk b0_)).trans b0_; exact ⟨by rw [cell_blk e]; rfl, by rw [cell_blk e]; rfl, by rw [cell_blk e]; rfl⟩)
      have Ba0 := Lib.hid hb_
      clear hb_ b0_
      have Ha := Lib.hid (Hb.out.trans (Ba0.out.mono Hb.out.size))
      have Ga := Lib.hid (Hg.out.trans (Ba0.out.mono Hg.out.size))
      obtain ⟨a0, a1, a2⟩ := Ta.out wa (Below.refl _ _)
      go_wp2_with fail
      refine (HV.out _ Ha.out).mono ?_
      rintro e w2 ⟨rfl, hb2⟩
      clear a0 a1 a2 HV
      obtain ⟨a0, a1, a2⟩ := Ta.out w2 hb2
      have Hc := Lib.hid (Ha.out.trans (hb2.mono Ha.out.size))
      have Gc := Lib.hid (Ga.out.trans (hb2.mono Ga.out.size))
      have Fc := Lib.hid hb2
      clear hb2
      cases qv
      · have HN := Lib.hid (HX.out (by rw [HD.out]; rfl))
        go_wp2_with fail
        go_ret
        exact ⟨ret_bool HN.out.symm, Hc.out⟩
      by_cases g1 : 0 ≤ ks
      rotate_left
      · have d1 : decide (ks < 0) = true := decide_eq_true (by omega)
        have HN := Lib.hid (HX.out (by rw [HD.out, decide_eq_false (by omega)]; rfl))
        go_wp2_with fail
        go_ret
        exact ⟨ret_bool HN.out.symm, Hc.out⟩
      have d1 : decide (ks < 0) = false := decide_eq_false (by omega)
      by_cases g2 : ks ≤ 64
      rotate_left
      · have d2 : decide (64 < ks) = true := decide_eq_true (by omega)
        have HN := Lib.hid (HX.out (by rw [HD.out, decide_eq_false (show ¬ ks ≤ 64 by omega)]; simp))
        go_wp2_with fail
        go_ret
        exact ⟨ret_bool HN.out.symm, Hc.out⟩
      have d2 : decide (64 < ks) = false := decide_eq_false (by omega)
      have HD2 : Hid (rb = an.all (ndFit n1 l1 l3 mt)) := Lib.hid (by rw [HD.out, decide_eq_true g1, decide_eq_true g2]; rfl)
      clear HD
      go_wp2_with fail
      clear a0 a1 a2 d1 d2
      go_loopw [43] (fun iv wi => ∃ j : Nat, j ≤ l3 ∧ iv = .int .i64 j ∧ Below w.heap.size w wi ∧ Below w0.heap.size w0 wi ∧ Below wa.heap.size wa wi ∧ ∀ i, i < j → ndFit n1 l1 l3 mt (an.getD i default) = true) (fun iv _ => l3 - (intOf iv).toNat)
      case atStart => exact ⟨0, by omega, rfl, Hc.out, Gc.out, Fc.out, fun i hi => by omega⟩
      case round =>
        obtain ⟨j, hj, rfl, hbi, hgi, hfi, hoi⟩ := hrel
        have Hbi := Lib.hid hbi; have Hgi := Lib.hid hgi; have Hfi := Lib.hid hfi; have Hoi := Lib.hid hoi
        clear hbi hgi hfi hoi
        by_cases hlt2 : j < l3
        · obtain ⟨b3, o3, ⟨e0, e1⟩, hP, hb3, x3, x4, x5, x6, x7, g0⟩ := NdsAt.cells HI.out (show j < an.length by rw [M3.out]; exact hlt2)
          dsimp only at hP x3
          subst hP
          have lb : b3 < w.heap.size := Nat.lt_of_lt_of_le hb3 hB
          have x3 := (Hbi.out.cell (p := ⟨b3, _, none⟩) lb).trans x3
          have x4 := (Hbi.out.cell (p := ⟨b3, _, none⟩) lb).trans x4
          have x5 := (Hbi.out.cell (p := ⟨b3, _, none⟩) lb).trans x5
          have x6 := (Hbi.out.cell (p := ⟨b3, _, none⟩) lb).trans x6
          have x7 := (Hbi.out.cell (p := ⟨b3, _, none⟩) lb).trans x7
          have HU : Hid (ndFit n1 l1 l3 mt (an.getD j default) = false → res = false) := Lib.hid (fun h => HX.out (by rw [HD2.out]; exact all_not (by rw [M3.out]; exact hlt2) h))
          have HV : Hid (ndFit n1 l1 l3 mt (an.getD j default) = true → ∀ i, i < j + 1 → ndFit n1 l1 l3 mt (an.getD i default) = true) := Lib.hid (fun h i hi => by
            by_cases e : i = j
            · rw [e]; exact h
            · exact Hoi.out i (by omega))
          have HE : Hid (ndFit n1 l1 l3 mt (an.getD j default) = ((an.getD j default).code.all (inOk n1 l1) && ndOk n1 l1 l3 mt (an.getD j default))) := Lib.hid rfl
          have HI2 : Hid (∀ W, Below w.heap.size w W → W.heap[w.heap.size]? = some (.cells #[.slice A n1 cp, .int .i64 mt, .slice (some ⟨b, o, none⟩) n2 cp'] 25 (0, 0)) → W.heap[wo.heap.size]? = some (.cells #[.slice P0 l1 pc0, .int .i64 ks, .slice (some ⟨b3, o3, none⟩) l3 qc1] 57 (0, 0)) →
              Calls Try.prog 76 #[.slice e0 (an.getD j default).code.length e1, .func (.func 77) #[] #[.pointer (some ⟨w.heap.size, 0, none⟩), .pointer (some ⟨wo.heap.size, 0, none⟩)]] W fun e w' => e = .returned (.bool (!(an.getD j default).code.all (inOk n1 l1))) ∧ Below W.heap.size W w') := Lib.hid (fun W hW k1 k2 =>
            contains_ins n1 l1 n2 l3 mt ks (A, cp) (some ⟨b, o, none⟩, cp') (P0, pc0) (some ⟨b3, o3, none⟩, qc1) w.heap.size wo.heap.size L1 L3 (an.getD j default).code _ rfl (R1n.out j hlt2) (fun i hi => (R2n.out j hlt2 i hi).2.2.1) (e0, e1) B W (g0.below (hW.mono hB)) (Nat.le_trans hB hW.size) k1 k2)
          have HN2 : Hid (∀ W, Calls Try.prog 79 #[.agg #[.slice A n1 cp, .int .i64 mt, .slice (some ⟨b, o, none⟩) n2 cp'], .agg #[.slice P0 l1 pc0, .int .i64 ks, .slice (some ⟨b3, o3, none⟩) l3 qc1], .agg #[.slice e0 (an.getD j default).code.length e1, .int .i64 (an.getD j default).kind, .int .i64 (an.getD j default).arg, .int .i64 (an.getD j default).next, .int .i64 (an.getD j default).alt]] W fun e w' => e = .returned (.bool (ndOk n1 l1 l3 mt (an.getD j default))) ∧ Below W.heap.size W w') := Lib.hid (fun W =>
            node_any n1 l1 n2 l3 mt ks (A, cp) (some ⟨b, o, none⟩, cp') (P0, pc0) (some ⟨b3, o3, none⟩, qc1) (e0, e1) (an.getD j default) L1 L3 L4 W)
          have L5 : (an.getD j default).code.length ≤ 4000000 := R1n.out j hlt2
          clear g0
          generalize ndFit n1 l1 l3 mt (an.getD j default) = rn at *
          generalize ndOk n1 l1 l3 mt (an.getD j default) = rk at *
          generalize (an.getD j default).code.all (inOk n1 l1) = ri at *
          generalize an.getD j default = nd at *
          obtain ⟨cl, n2', n3, n4, n5⟩ := nd
          dsimp only at *
          generalize cl.length = l5 at *
          go_upto_region 11 with (fail)
          clear x3 x4 x5 x6 x7
          obtain ⟨b0_, hb_⟩ := boxes1 wr (.cells #[.slice e0 l5 e1, .int .i64 n2', .int .i64 n3, .int .i64 n4, .int .i64 n5] 60)
          generalize wr.alloc (.cells #[.slice e0 l5 e1, .int .i64 n2', .int .i64 n3, .int .i64 n4, .int .i64 n5] 60) = wx at *
          have Tx : Hid (∀ W, Below wx.heap.size wx W → W.cell? ⟨wr.heap.size, 0, none⟩ = some (.slice e0 l5 e1) ∧ W.cell? ⟨wr.heap.size, 1, none⟩ = some (.int .i64 n2') ∧ W.cell? ⟨wr.heap.size, 2, none⟩ = some (.int .i64 n3) ∧ W.cell? ⟨wr.heap.size, 3, none⟩ = some (.int .i64 n4) ∧ W.cell? ⟨wr.heap.size, 4, none⟩ = some (.int .i64 n5)) := Lib.hid (fun W hW => by have e := (hW.block _ (lt_blk b0_)).trans b0_; exact ⟨by rw [cell_blk e]; rfl, by rw [cell_blk e]; rfl, by rw [cell_blk e]; rfl, by rw [cell_blk e]; rfl, by rw [cell_blk e]; rfl⟩)
          have Bx0 := Lib.hid hb_
          clear hb_ b0_
          have Hx := Lib.hid (Hbi.out.trans (Bx0.out.mono Hbi.out.size))
          have Gx := Lib.hid (Hgi.out.trans (Bx0.out.mono Hgi.out.size))
          have Fx := Lib.hid (Hfi.out.trans (Bx0.out.mono Hfi.out.size))
          obtain ⟨z0, z1, z2, z3, z4⟩ := Tx.out wx (Below.refl _ _)
          go_wp2_with fail
          refine (HI2.out _ Hx.out (T0b.out _ Gx.out) (Tab.out _ Fx.out)).mono ?_
          rintro e w3 ⟨rfl, hb3⟩
          clear z0 z1 z2 z3 z4 HI2
          obtain ⟨z0, z1, z2, z3, z4⟩ := Tx.out w3 hb3
          have Hy := Lib.hid (Hx.out.trans (hb3.mono Hx.out.size))
          have Gy := Lib.hid (Gx.out.trans (hb3.mono Gx.out.size))
          have Fy := Lib.hid (Fx.out.trans (hb3.mono Fx.out.size))
          clear hb3
          obtain ⟨c0, c1, c2⟩ := T0.out w3 Gy.out
          obtain ⟨a0, a1, a2⟩ := Ta.out w3 Fy.out
          cases ri
          · have HN := Lib.hid (HU.out (by rw [HE.out]; rfl))
            go_wp2_with fail
            go_ret
            exact ⟨ret_bool HN.out.symm, Hy.out⟩
          go_wp2_with fail
          refine (HN2.out _).mono ?_
          rintro e w4 ⟨rfl, hb4⟩
          clear z0 z1 z2 z3 z4 HN2 c0 c1 c2 a0 a1 a2
          have Hz := Lib.hid (Hy.out.trans (hb4.mono Hy.out.size))
          have Gz := Lib.hid (Gy.out.trans (hb4.mono Gy.out.size))
          have Fz := Lib.hid (Fy.out.trans (hb4.mono Fy.out.size))
          clear hb4
          cases rk
          · have HN := Lib.hid (HU.out (by rw [HE.out]; rfl))
            go_wp2_with fail
            go_ret
            exact ⟨ret_bool HN.out.symm, Hz.out⟩
          · have HN := Lib.hid (HV.out (by rw [HE.out]; rfl))
            go_wp2_with fail
            go_roundw
            case rel => exact ⟨j + 1, by omega, by go_num, Hz.out, Gz.out, Fz.out, HN.out⟩
            case measure => simp [intOf]; omega
        · obtain rfl : j = l3 := by omega
          have HN := Lib.hid (HY.out (by rw [HD2.out]; exact all_of (by rw [M3.out]; exact Hoi.out)))
          go_wp2_with fail
          go_roundw
          case rel => exact ⟨k + 1, by omega, by go_num, Hbi.out, Hgi.out, HN.out⟩
          case measure => simp [intOf]; omega
    · obtain rfl : k = n2 := by omega
      have HN : Hid (res = true) := Lib.hid (by rw [HR2.out]; exact all_of (by rw [N2.out]; exact Ho.out))
      go_wp2_with fail
      go_ret
      exact ⟨ret_bool HN.out.symm, Hb.out⟩
end Go.Proofs.Ytbmpjphemjponaa
end

section
set_option linter.unusedSimpArgs false
set_option linter.unusedVariables false
namespace Go.Proofs.Ytbmpjphemjponaa
open Go.RowKit

def rowA : Array Value := #[.int .u8 3, .int .u8 4, .int .u8 2, .int .u8 2, .int .u8 5, .int .u8 6, .int .u8 0, .int .u8 2, .int .u8 7, .int .u8 10, .int .u8 1, .int .u8 2, .int .u8 7, .int .u8 10, .int .u8 3, .int .u8 2, .int .u8 11, .int .u8 15, .int .u8 1, .int .u8 1, .int .u8 11, .int .u8 14, .int .u8 3, .int .u8 3, .int .u8 16, .int .u8 16, .int .u8 1, .int .u8 1, .int .u8 16, .int .u8 16, .int .u8 3, .int .u8 3, .int .u8 17, .int .u8 17, .int .u8 2, .int .u8 2, .int .u8 18, .int .u8 18, .int .u8 3, .int .u8 1, .int .u8 19, .int .u8 19, .int .u8 1, .int .u8 3]
theorem rowA_size : rowA.size = 44 := rfl
set_option maxRecDepth 100000 in
set_option maxHeartbeats 1000000 in
theorem rows_any (w : World) : Calls Try.prog 96 #[] w fun e w' => e = .returned (.agg rowA) ∧ Below w.heap.size w w' := by
  have HA : Hid (rowA = rowA) := Lib.hid rfl
  have h1 : rowA.all (·.oneCell') = true := by kernel_rfl
  go_enter Try.func96, Try.ntmps96
  go_upto_region 1 with (fail)
  obtain ⟨zs, hzs, hz⟩ : ∃ zs : Array Value, zs = #[.int .u8 0, .int .u8 0, .int .u8 0, .int .u8 0, .int .u8 0, .int .u8 0, .int .u8 0, .int .u8 0, .int .u8 0, .int .u8 0, .int .u8 0, .int .u8 0, .int .u8 0, .int .u8 0, .int .u8 0, .int .u8 0, .int .u8 0, .int .u8 0, .int .u8 0, .int .u8 0, .int .u8 0, .int .u8 0, .int .u8 0, .int .u8 0, .int .u8 0, .int .u8 0, .int .u8 0, .int .u8 0, .int .u8 0, .int .u8 0, .int .u8 0, .int .u8 0, .int .u8 0, .int .u8 0, .int .u8 0, .int .u8 0, .int .u8 0, .int .u8 0, .int .u8 0, .int .u8 0, .int .u8 0, .int .u8 0, .int .u8 0, .int .u8 0] ∧ zs.size = 44 := ⟨_, rfl, rfl⟩
  rw [← hzs]
  clear hzs
  have hb := below_alloc w (.cells zs 123)
  have hg := heap_alloc_new w (.cells zs 123)
  generalize w.alloc (.cells zs 123) = w0 at *
  have Hb := Lib.hid hb; have Hg := Lib.hid hg; have Hz := Lib.hid hz
  clear hb hg hz
  go_wp2_with (refine wpList_store_row (o := ⟨none, .store 123 (.tmp 0) (.tmp 12), _, _, _, _⟩) rfl _ _ _ rfl w.heap.size rowA rfl rfl _ zs Hg.out (by rw [rowA_size]; kernel_rfl) (by rw [rowA_size, Hz.out]) h1 ?_)
  refine bodyPost_ret (results_cell_row rfl _ _ w.heap.size 123 rowA (0, 0) _ rfl (setRow_heap _ _ _ rowA _ (0, 0) Hg.out) Try.underlying123 rfl (by rw [rowA_size]; kernel_rfl)) rfl ⟨rfl, ?_⟩
  exact below_setRow Hb.out (Nat.le_refl _) _
def rowK (k : Nat) : Int × Int × Int × Int := rowsL.getD k (0, 0, 0, 0)
theorem row_at (k : Nat) (hk : k < 11) (w : World) : (Instr.index 123 (.agg rowA) (.int .i64 k)).run Try.prog w = .ok (.agg #[.int .u8 (rowK k).1, .int .u8 (rowK k).2.1, .int .u8 (rowK k).2.2.1, .int .u8 (rowK k).2.2.2]) w := by
  have : k = 0 ∨ k = 1 ∨ k = 2 ∨ k = 3 ∨ k = 4 ∨ k = 5 ∨ k = 6 ∨ k = 7 ∨ k = 8 ∨ k = 9 ∨ k = 10 := by omega
  rcases this with h | h | h | h | h | h | h | h | h | h | h <;> subst h <;> (show _ = _) <;> kernel_rfl
theorem resF_step (x t : Int) (k : Nat) (hk : k < 11) : resF x t (rowsL.drop k) = if rowOk x t (rowK k) then (rowK k).2.2.2 else resF x t (rowsL.drop (k + 1)) := by
  have : k = 0 ∨ k = 1 ∨ k = 2 ∨ k = 3 ∨ k = 4 ∨ k = 5 ∨ k = 6 ∨ k = 7 ∨ k = 8 ∨ k = 9 ∨ k = 10 := by omega
  rcases this with h | h | h | h | h | h | h | h | h | h | h <;> subst h <;> rfl
set_option maxRecDepth 100000 in
set_option maxHeartbeats 1000000 in
theorem result_any (x t : Int) (w : World) : Calls Try.prog 90 #[.int .u8 x, .int .u8 t] w fun e w' => e = .returned (.int .u8 (resT x t)) ∧ Below w.heap.size w w' := by
  have HT : Hid (resT x t = resF x t (rowsL.drop 0)) := Lib.hid rfl
  have HS := Lib.hid (resF_step x t)
  have HA := Lib.hid row_at
  have HR := Lib.hid rows_any
  generalize resT x t = res at *
  generalize rowA = ra at *
  go_enter Try.func90, Try.ntmps90
  go_wp2_with fail
  refine (HR.out _).mono ?_
  rintro e w1 ⟨rfl, hb⟩
  have Hb := Lib.hid hb
  clear hb
  go_wp2_with fail
  go_loopw [8] (fun iv wr => ∃ k : Nat, k ≤ 11 ∧ iv = .int .i64 k ∧ res = resF x t (rowsL.drop k) ∧ Below w.heap.size w wr) (fun iv _ => 11 - (intOf iv).toNat)
  case atStart => exact ⟨0, by omega, rfl, HT.out, Hb.out⟩
  case round =>
    obtain ⟨k, hk, rfl, hr, hb⟩ := hrel
    have Hr := Lib.hid hr; have Hb := Lib.hid hb
    clear hr hb
    by_cases hlt : k < 11
    · have ha := HA.out k hlt
      have H1 := Lib.hid (Hr.out.trans (HS.out k hlt))
      have H2 : Hid (rowOk x t (rowK k) = (decide ((rowK k).1 ≤ x) && (decide (x ≤ (rowK k).2.1) && (decide ((rowK k).2.2.1 = 0) || decide ((rowK k).2.2.1 = t))))) := Lib.hid rfl
      generalize rowOk x t (rowK k) = ok at *
      generalize rowK k = r at *
      obtain ⟨r1, r2, r3, r4⟩ := r
      dsimp only at *
      generalize he0 : decide (r1 ≤ x) = e0 at *
      generalize he1 : decide (x ≤ r2) = e1 at *
      generalize he2 : decide (r3 = 0) = e2 at *
      have f2 : (r3 == 0) = e2 := he2
      generalize he3 : decide (r3 = t) = e3 at *
      have f3 : (r3 == t) = e3 := he3
      clear he2 he3
      have HN1 : Hid ((e0 && (e1 && (e2 || e3))) = true → res = r4) := Lib.hid (fun h => by rw [H1.out, H2.out, h]; rfl)
      have HN0 : Hid ((e0 && (e1 && (e2 || e3))) = false → res = resF x t (rowsL.drop (k + 1))) := Lib.hid (fun h => by rw [H1.out, H2.out, h]; rfl)
      clear H1 H2
      cases e0 <;> cases e1 <;> cases e2 <;> cases e3
      all_goals
        go_wp2_with fail
        first
          | (go_ret; exact ⟨ret_int (HN1.out rfl).symm, (Hb.out.alloc Hb.out.size _)⟩)
          | (go_roundw
             case rel => exact ⟨k + 1, by omega, by go_num, HN0.out rfl, (Hb.out.alloc Hb.out.size _)⟩
             case measure => simp [intOf] <;> omega)
    · obtain rfl : k = 11 := by omega
      go_wp2_with fail
      go_ret
      exact ⟨ret_int Hr.out.symm, Hb.out⟩
end Go.Proofs.Ytbmpjphemjponaa
end

section
set_option linter.unusedSimpArgs false
set_option linter.unusedVariables false
namespace Go.Proofs.Ytbmpjphemjponaa
open Go.RowKit


theorem ETy : El Try.prog 106 48 (.int .u8 0) 1 := ⟨Try.underlying106, by kernel_rfl, rfl⟩
def tyc (s : List Int) : List Value := s.map (Value.int .u8)
def TyOwn (w : World) (base : Nat) (v : Value) (s : List Int) : Prop := w.ownsRow base 48 1 v s.length (tyc s)
theorem TyOwn.shape {w : World} {base : Nat} {v : Value} {s : List Int} (h : TyOwn w base v s) (h0 : 0 < s.length) : ∃ g cap, v = .slice (some ⟨g, 0, none⟩) s.length cap ∧ s.length ≤ cap ∧ ∀ W, Below w.heap.size w W → ∀ j, j < s.length → W.cell? ⟨g, j, none⟩ = some (.int .u8 (s.getD j 0)) := by
  rcases h.2 with ⟨_, e⟩ | ⟨g, cap, cur, rfl, _, hg, hnc, _, hsz, htk⟩
  · omega
  · refine ⟨g, cap, rfl, hnc, fun W hW j hj => ?_⟩
    rw [cell_blk ((hW.block g (lt_blk hg)).trans hg), ← Array.getElem?_toList]
    have h1 : (cur.toList.take (s.length * 1))[j]? = cur.toList[j]? := by rw [List.getElem?_take, if_pos (by omega)]
    rw [← h1, htk, tyc, List.getElem?_map, List.getD_eq_getElem?_getD, List.getElem?_eq_getElem hj]
    rfl
theorem TyOwn.low {w : World} {L L' : Nat} {v : Value} {s : List Int} (h : TyOwn w L v s) (hl : L' ≤ L) : TyOwn w L' v s := by
  refine ⟨h.1, h.2.imp id ?_⟩
  rintro ⟨g, cap, cur, h1, h2, h3⟩
  exact ⟨g, cap, cur, h1, Nat.le_trans hl h2, h3⟩
theorem own_take {w : World} {base : Nat} {e : TypeId} {a : Addr} {n cap k : Nat} {xs : List Value} (h : w.ownsRow base e 1 (.slice (some a) n cap) n xs) (hk : k ≤ n) : w.ownsRow base e 1 (.slice (some a) k cap) k (xs.take k) := by
  refine ⟨by simp [h.1]; omega, ?_⟩
  rcases h.2 with ⟨e, _⟩ | ⟨g, cap', cur, e, hb, hg, hnc, hm, hsz, htk⟩
  · cases e
  · cases e
    refine .inr ⟨g, cap, cur, rfl, hb, hg, by omega, hm, hsz, ?_⟩
    rw [← htk, List.take_take, show min k (n * 1) = k * 1 by omega]
/-- what code.stack answers. -/
def StkP (base : Nat) (r : Option (List Int × Nat)) (e : Ending) (w' : World) : Prop := match r with
  | none => e = .returned (.tuple #[.slice none 0 0, .int .i64 0, .bool false])
  | some (s, h) => s.length ≤ 4000000 ∧ ∃ v, e = .returned (.tuple #[v, .int .i64 h, .bool true]) ∧ TyOwn w' base v s
theorem stkL_cons (sh lo : List Vl) (i : Ins) (r : List Ins) (s : List Int) (h : Nat) : stkL sh lo (i :: r) s h = match stk1 sh lo i s with
    | none => none
    | some s' => stkL sh lo r s' (max h s'.length) := rfl
theorem drop_at {α : Type} [Inhabited α] (l : List α) (k : Nat) (h : k < l.length) : l.drop k = l.getD k default :: l.drop (k + 1) := by
  rw [List.drop_eq_getElem_cons h]; simp [List.getD_eq_getElem?_getD, List.getElem?_eq_getElem h]
theorem inOk_load {ns nl : Int} {i : Ins} (h : inOk ns nl i = true) (e : i.op = 30) : ∃ j : Nat, i.arg = j ∧ (j : Int) < nl := by
  unfold inOk wi at h
  rw [if_neg (by omega), if_pos e] at h
  simp only [Bool.and_eq_true, decide_eq_true_eq] at h
  exact ⟨i.arg.toNat, by omega, by omega⟩
theorem inOk_fetch {ns nl : Int} {i : Ins} (h : inOk ns nl i = true) (e : i.op = 31) : ∃ j : Nat, i.arg = j ∧ (j : Int) < ns := by
  unfold inOk wi at h
  rw [if_neg (by omega), if_neg (by omega), if_pos e] at h
  simp only [Bool.and_eq_true, decide_eq_true_eq] at h
  exact ⟨i.arg.toNat, by omega, by omega⟩
set_option maxRecDepth 100000 in
set_option maxHeartbeats 4000000 in
theorem stack_any (sh lo : List Vl) (nb nn : Nat) (mt st : Int) (p q p2 q2 p3 : Slc) (n : Nd) (h1 : sh.length ≤ 4000000) (h2 : lo.length ≤ 4000000) (h3 : n.code.length ≤ 4000000) (hin : n.code.all (inOk sh.length lo.length) = true) (B : Nat) (w : World)
    (hs : VlsAt w B p sh) (hl : VlsAt w B p2 lo) (hc : InsAt w B p3 n.code) (hB : B ≤ w.heap.size) :
    Calls Try.prog 80 #[cav p q sh.length nb mt, cav p2 q2 lo.length nn st, ndv n p3] w fun e w' => StkP w.heap.size (stkL sh lo n.code [] 0) e w' ∧ Below w.heap.size w w' := by
  have HI : Hid (∀ k, k < n.code.length → inOk sh.length lo.length (n.code.getD k default) = true) := Lib.hid (fun k hk => all_at hin hk)
  have HR : Hid (stkL sh lo n.code [] 0 = stkL sh lo (n.code.drop 0) [] 0) := Lib.hid rfl
  have HS := Lib.hid hs; have HL := Lib.hid hl; have HC := Lib.hid hc
  unfold cav ndv
  clear hin hs hl hc
  generalize stkL sh lo n.code [] 0 = res at *
  obtain ⟨cd, kind, arg, next, alt⟩ := n
  obtain ⟨A, cp⟩ := p; obtain ⟨A', cp'⟩ := q; obtain ⟨A2, cp2⟩ := p2; obtain ⟨A2', cp2'⟩ := q2; obtain ⟨A3, cp3⟩ := p3
  dsimp only at *
  generalize hm1 : sh.length = ns at *
  generalize hm2 : lo.length = nl at *
  generalize hm3 : cd.length = nc at *
  have M1 := Lib.hid hm1; have M2 := Lib.hid hm2; have M3 := Lib.hid hm3
  clear hm1 hm2 hm3
  go_enter Try.func80, Try.ntmps80
  go_upto_region 1 with (fail)
  obtain ⟨b0_, b1_, b2_, hb_⟩ := boxes3 w (.cells #[.slice A ns cp, .int .i64 mt, .slice A' nb cp'] 25) (.cells #[.slice A2 nl cp2, .int .i64 st, .slice A2' nn cp2'] 57) (.cells #[.slice A3 nc cp3, .int .i64 kind, .int .i64 arg, .int .i64 next, .int .i64 alt] 60)
  generalize ((w.alloc (.cells #[.slice A ns cp, .int .i64 mt, .slice A' nb cp'] 25)).alloc (.cells #[.slice A2 nl cp2, .int .i64 st, .slice A2' nn cp2'] 57)).alloc (.cells #[.slice A3 nc cp3, .int .i64 kind, .int .i64 arg, .int .i64 next, .int .i64 alt] 60) = w0 at *
  have T0 : Hid (∀ W, Below w0.heap.size w0 W → W.cell? ⟨w.heap.size, 0, none⟩ = some (.slice A ns cp) ∧ W.cell? ⟨w.heap.size, 1, none⟩ = some (.int .i64 mt) ∧ W.cell? ⟨w.heap.size, 2, none⟩ = some (.slice A' nb cp')) := Lib.hid (fun W hW => by have e := (hW.block _ (lt_blk b0_)).trans b0_; exact ⟨by rw [cell_blk e]; rfl, by rw [cell_blk e]; rfl, by rw [cell_blk e]; rfl⟩)
  have T1 : Hid (∀ W, Below w0.heap.size w0 W → W.cell? ⟨w.heap.size + 1, 0, none⟩ = some (.slice A2 nl cp2) ∧ W.cell? ⟨w.heap.size + 1, 1, none⟩ = some (.int .i64 st) ∧ W.cell? ⟨w.heap.size + 1, 2, none⟩ = some (.slice A2' nn cp2')) := Lib.hid (fun W hW => by have e := (hW.block _ (lt_blk b1_)).trans b1_; exact ⟨by rw [cell_blk e]; rfl, by rw [cell_blk e]; rfl, by rw [cell_blk e]; rfl⟩)
  have T2 : Hid (∀ W, Below w0.heap.size w0 W → W.cell? ⟨w.heap.size + 1 + 1, 0, none⟩ = some (.slice A3 nc cp3) ∧ W.cell? ⟨w.heap.size + 1 + 1, 1, none⟩ = some (.int .i64 kind) ∧ W.cell? ⟨w.heap.size + 1 + 1, 2, none⟩ = some (.int .i64 arg) ∧ W.cell? ⟨w.heap.size + 1 + 1, 3, none⟩ = some (.int .i64 next) ∧ W.cell? ⟨w.heap.size + 1 + 1, 4, none⟩ = some (.int .i64 alt)) := Lib.hid (fun W hW => by have e := (hW.block _ (lt_blk b2_)).trans b2_; exact ⟨by rw [cell_blk e]; rfl, by rw [cell_blk e]; rfl, by rw [cell_blk e]; rfl, by rw [cell_blk e]; rfl, by rw [cell_blk e]; rfl⟩)
  have BA := Lib.hid hb_
  clear hb_ b0_ b1_ b2_
  obtain ⟨z0, -, -, -, -⟩ := T2.out w0 (Below.refl _ _)
  go_wp2_with fail
  clear z0 T2
  go_loopw [9, 10, 18] (fun sv hv iv wr => ∃ (k : Nat) (s : List Int) (h : Nat) (v : Value), v = sv ∧ k ≤ nc ∧ s.length ≤ k ∧ h ≤ k ∧ iv = .int .i64 k ∧ hv = .int .i64 h ∧ res = stkL sh lo (cd.drop k) s h ∧ TyOwn wr w0.heap.size v s ∧ Below w0.heap.size w0 wr) (fun _ _ iv _ => nc - (intOf iv).toNat)
  case atStart => exact ⟨0, [], 0, _, rfl, by omega, by simp, by omega, rfl, rfl, HR.out, World.ownsRow_nil _ _ _ _, Below.refl _ _⟩
  case round =>
    obtain ⟨k, s, h, v, rfl, hk, hsk, hhk, rfl, rfl, hr, ho, hb⟩ := hrel
    have Hr := Lib.hid hr; have Ho := Lib.hid ho; have Hb := Lib.hid hb
    clear hr ho hb
    by_cases hlt : k < nc
    · obtain ⟨b, o, rfl, hb1, x0, x1, x2, x3⟩ := InsAt.cells HC.out (show k < cd.length by rw [M3.out]; exact hlt)
      have HB := Lib.hid (BA.out.trans (Hb.out.mono BA.out.size))
      have x0 := (HB.out.cell (p := ⟨b, _, none⟩) (Nat.lt_of_lt_of_le hb1 hB)).trans x0
      have x1 := (HB.out.cell (p := ⟨b, _, none⟩) (Nat.lt_of_lt_of_le hb1 hB)).trans x1
      have x2 := (HB.out.cell (p := ⟨b, _, none⟩) (Nat.lt_of_lt_of_le hb1 hB)).trans x2
      have x3 := (HB.out.cell (p := ⟨b, _, none⟩) (Nat.lt_of_lt_of_le hb1 hB)).trans x3
      have HK := Lib.hid (HI.out k hlt)
      have HD : Hid (cd.drop k = cd.getD k default :: cd.drop (k + 1)) := Lib.hid (drop_at cd k (by rw [M3.out]; exact hlt))
      generalize cd.getD k default = i at *
      have HK1 := Lib.hid (fun e => inOk_load HK.out e)
      have HK2 := Lib.hid (fun e => inOk_fetch HK.out e)
      have HX1 : Hid (stk1 sh lo i s = none → res = none) := Lib.hid (fun e => by rw [Hr.out, HD.out, stkL_cons, e])
      have HX2 : Hid (∀ s', stk1 sh lo i s = some s' → res = stkL sh lo (cd.drop (k + 1)) s' (max h s'.length)) := Lib.hid (fun s' e => by rw [Hr.out, HD.out, stkL_cons, e])
      have HQ : Hid (stk1 sh lo i s = if i.op = 30 then stk1.pushT (lo.getD i.arg.toNat default).t s else if i.op = 31 then stk1.pushT (sh.getD i.arg.toNat default).t s
        else if i.op = 1 then stk1.pushT i.l.t s else if s.length < opn i.op then none
        else if s.getD (s.length - opn i.op) 0 = s.getD (s.length - 1) 0 then stk1.pushT (resT i.op (s.getD (s.length - opn i.op) 0)) (s.take (s.length - opn i.op)) else none) := Lib.hid rfl
      generalize stk1 sh lo i s = ot at *
      clear HK Hr
      obtain ⟨op, ag, t, bt⟩ := i
      dsimp only at *
      go_upto_region 6 with (fail)
      clear x0 x1 x2 x3
      have HH : Hid (wr.heap.size = wr.heap.size) := Lib.hid rfl
      obtain ⟨b0_, hb_⟩ := boxes1 wr (.cells #[.int .u8 op, .int .i64 ag, .int .u8 t, .int .u64 bt] 53)
      generalize wr.alloc (.cells #[.int .u8 op, .int .i64 ag, .int .u8 t, .int .u64 bt] 53) = wi at *
      have Ti : Hid (∀ W, Below wi.heap.size wi W → W.cell? ⟨wr.heap.size, 0, none⟩ = some (.int .u8 op) ∧ W.cell? ⟨wr.heap.size, 1, none⟩ = some (.int .i64 ag) ∧ W.cell? ⟨wr.heap.size, 2, none⟩ = some (.int .u8 t) ∧ W.cell? ⟨wr.heap.size, 3, none⟩ = some (.int .u64 bt)) := Lib.hid (fun W hW => by have e := (hW.block _ (lt_blk b0_)).trans b0_; exact ⟨by rw [cell_blk e]; rfl, by rw [cell_blk e]; rfl, by rw [cell_blk e]; rfl, by rw [cell_blk e]; rfl⟩)
      have Bi := Lib.hid hb_
      clear hb_ b0_
      have Hi := Lib.hid (Hb.out.trans (Bi.out.mono Hb.out.size))
      have Oi : Hid (TyOwn wi w0.heap.size v s) := Lib.hid (own_below Ho.out Bi.out)
      obtain ⟨c0, c1, c2⟩ := T0.out wi Hi.out
      obtain ⟨d0, d1, d2⟩ := T1.out wi Hi.out
      obtain ⟨y0, y1, y2, y3⟩ := Ti.out wi (Below.refl _ _)
      clear Ho Hb Bi
      by_cases g1 : op = 30
      · subst g1
        obtain ⟨j, rfl, hj⟩ := HK1.out rfl
        have hj : j < nl := by omega
        obtain ⟨b2, o2, rfl, hb2, l0, -⟩ := VlsAt.cells HL.out (show j < lo.length by rw [M2.out]; exact hj)
        have l0 := ((BA.out.trans (Hi.out.mono BA.out.size)).cell (p := ⟨b2, _, none⟩) (Nat.lt_of_lt_of_le hb2 hB)).trans l0
        have HP : Hid (ot = stk1.pushT (lo.getD j default).t s) := Lib.hid HQ.out
        clear HK1 HK2 HQ
        generalize (lo.getD j default).t = tt at *
        go_upto_region 17 with (fail)
        clear l0 c0 c1 c2 d0 d1 d2 y0 y1 y2 y3
        obtain ⟨v1, e1⟩ : ∃ x, x = v := ⟨_, rfl⟩; subst e1
        obtain ⟨s1, e1⟩ : ∃ x, x = s := ⟨_, rfl⟩; subst e1
        obtain ⟨n1, e1⟩ : ∃ x, s1.length = x := ⟨_, rfl⟩
        have HL1 := Lib.hid e1
        have hn1 : n1 ≤ k := by omega
        have Ho1 : Hid (wi.ownsRow w0.heap.size 48 1 v1 n1 (tyc s1)) := Lib.hid (by have := Oi.out; unfold TyOwn at this; rwa [e1] at this)
        clear e1
        have Hb1 := Hi
        clear Oi Hi
        by_cases z : tt = 0
        · subst z
          have HN := Lib.hid (HX1.out (HP.out.trans (if_pos rfl)))
          go_wp2_with fail
          go_ret3
          exact ⟨by rw [HN.out]; rfl, BA.out.trans (Hb1.out.mono BA.out.size)⟩
        · have dz : (tt == 0) = false := by simpa using z
          have HN := Lib.hid (HX2.out _ (HP.out.trans (if_neg z)))
          go_wp2_with (at_builtin; refine wpList_append_one0 ETy rfl (.tmp 84) (.tmp 86) rfl w0.heap.size (.int .u8 tt) rfl v1 n1 (tyc s1) rfl Ho1.out rfl (by omega) (by omega) w0 (Nat.le_refl _) Hb1.out ?_; intro v5 w5 h2 h3 h4 h5; clear h4 h5; have h6 := own_rdS h2; obtain ⟨A5, c5, rfl, -, -, -⟩ := h6; have O5 := Lib.hid h2; have B5 := Lib.hid h3; clear h2 h3)
          go_roundw
          case rel => exact ⟨k + 1, s1 ++ [tt], max h (n1 + 1), _, rfl, by omega, by rw [List.length_append, HL1.out]; exact Nat.succ_le_succ hn1, by omega, by go_num, by first | go_num | (simp; omega), by rw [HN.out, List.length_append, HL1.out]; rfl, by unfold TyOwn tyc; rw [List.length_append, List.map_append, HL1.out]; exact O5.out, B5.out⟩
          case measure => simp [intOf]; omega
      by_cases g2 : op = 31
      · subst g2
        obtain ⟨j, rfl, hj⟩ := HK2.out rfl
        have hj : j < ns := by omega
        obtain ⟨b2, o2, rfl, hb2, l0, -⟩ := VlsAt.cells HS.out (show j < sh.length by rw [M1.out]; exact hj)
        have l0 := ((BA.out.trans (Hi.out.mono BA.out.size)).cell (p := ⟨b2, _, none⟩) (Nat.lt_of_lt_of_le hb2 hB)).trans l0
        have HP : Hid (ot = stk1.pushT (sh.getD j default).t s) := Lib.hid HQ.out
        clear HK1 HK2 HQ
        generalize (sh.getD j default).t = tt at *
        go_upto_region 17 with (fail)
        clear l0 c0 c1 c2 d0 d1 d2 y0 y1 y2 y3
        obtain ⟨v1, e1⟩ : ∃ x, x = v := ⟨_, rfl⟩; subst e1
        obtain ⟨s1, e1⟩ : ∃ x, x = s := ⟨_, rfl⟩; subst e1
        obtain ⟨n1, e1⟩ : ∃ x, s1.length = x := ⟨_, rfl⟩
        have HL1 := Lib.hid e1
        have hn1 : n1 ≤ k := by omega
        have Ho1 : Hid (wi.ownsRow w0.heap.size 48 1 v1 n1 (tyc s1)) := Lib.hid (by have := Oi.out; unfold TyOwn at this; rwa [e1] at this)
        clear e1
        have Hb1 := Hi
        clear Oi Hi
        by_cases z : tt = 0
        · subst z
          have HN := Lib.hid (HX1.out (HP.out.trans (if_pos rfl)))
          go_wp2_with fail
          go_ret3
          exact ⟨by rw [HN.out]; rfl, BA.out.trans (Hb1.out.mono BA.out.size)⟩
        · have dz : (tt == 0) = false := by simpa using z
          have HN := Lib.hid (HX2.out _ (HP.out.trans (if_neg z)))
          go_wp2_with (at_builtin; refine wpList_append_one0 ETy rfl (.tmp 84) (.tmp 86) rfl w0.heap.size (.int .u8 tt) rfl v1 n1 (tyc s1) rfl Ho1.out rfl (by omega) (by omega) w0 (Nat.le_refl _) Hb1.out ?_; intro v5 w5 h2 h3 h4 h5; clear h4 h5; have h6 := own_rdS h2; obtain ⟨A5, c5, rfl, -, -, -⟩ := h6; have O5 := Lib.hid h2; have B5 := Lib.hid h3; clear h2 h3)
          go_roundw
          case rel => exact ⟨k + 1, s1 ++ [tt], max h (n1 + 1), _, rfl, by omega, by rw [List.length_append, HL1.out]; exact Nat.succ_le_succ hn1, by omega, by go_num, by first | go_num | (simp; omega), by rw [HN.out, List.length_append, HL1.out]; rfl, by unfold TyOwn tyc; rw [List.length_append, List.map_append, HL1.out]; exact O5.out, B5.out⟩
          case measure => simp [intOf]; omega
      by_cases g3 : op = 1
      · subst g3
        have HP : Hid (ot = stk1.pushT t s) := Lib.hid HQ.out
        clear HK1 HK2 HQ
        go_upto_region 17 with (fail)
        clear c0 c1 c2 d0 d1 d2 y0 y1 y2 y3
        obtain ⟨v1, e1⟩ : ∃ x, x = v := ⟨_, rfl⟩; subst e1
        obtain ⟨s1, e1⟩ : ∃ x, x = s := ⟨_, rfl⟩; subst e1
        obtain ⟨n1, e1⟩ : ∃ x, s1.length = x := ⟨_, rfl⟩
        have HL1 := Lib.hid e1
        have hn1 : n1 ≤ k := by omega
        have Ho1 : Hid (wi.ownsRow w0.heap.size 48 1 v1 n1 (tyc s1)) := Lib.hid (by have := Oi.out; unfold TyOwn at this; rwa [e1] at this)
        clear e1
        obtain ⟨tt, e1⟩ : ∃ x, x = t := ⟨_, rfl⟩; subst e1
        have Hb1 := Hi
        clear Oi Hi
        by_cases z : tt = 0
        · subst z
          have HN := Lib.hid (HX1.out (HP.out.trans (if_pos rfl)))
          go_wp2_with fail
          go_ret3
          exact ⟨by rw [HN.out]; rfl, BA.out.trans (Hb1.out.mono BA.out.size)⟩
        · have dz : (tt == 0) = false := by simpa using z
          have HN := Lib.hid (HX2.out _ (HP.out.trans (if_neg z)))
          go_wp2_with (at_builtin; refine wpList_append_one0 ETy rfl (.tmp 84) (.tmp 86) rfl w0.heap.size (.int .u8 tt) rfl v1 n1 (tyc s1) rfl Ho1.out rfl (by omega) (by omega) w0 (Nat.le_refl _) Hb1.out ?_; intro v5 w5 h2 h3 h4 h5; clear h4 h5; have h6 := own_rdS h2; obtain ⟨A5, c5, rfl, -, -, -⟩ := h6; have O5 := Lib.hid h2; have B5 := Lib.hid h3; clear h2 h3)
          go_roundw
          case rel => exact ⟨k + 1, s1 ++ [tt], max h (n1 + 1), _, rfl, by omega, by rw [List.length_append, HL1.out]; exact Nat.succ_le_succ hn1, by omega, by go_num, by first | go_num | (simp; omega), by rw [HN.out, List.length_append, HL1.out]; rfl, by unfold TyOwn tyc; rw [List.length_append, List.map_append, HL1.out]; exact O5.out, B5.out⟩
          case measure => simp [intOf]; omega
      have HQ1 : Hid (ot = if s.length < opn op then none
        else if s.getD (s.length - opn op) 0 = s.getD (s.length - 1) 0 then stk1.pushT (resT op (s.getD (s.length - opn op) 0)) (s.take (s.length - opn op)) else none) := Lib.hid (by rw [HQ.out, if_neg g1, if_neg g2, if_neg g3])
      have q1 : (op == 30) = false := by simpa using g1
      have q2 : (op == 31) = false := by simpa using g2
      have q3 : (op != 1) = true := by simpa using g3
      have HO := Lib.hid (operands_any op)
      have hop : 1 ≤ opn op ∧ opn op ≤ 2 := by unfold opn; split <;> omega
      obtain ⟨hop, hop2⟩ := hop
      have HRS := Lib.hid (result_any op)
      generalize opn op = m at *
      clear HQ HK1 HK2 g1 g2 g3
      generalize hls : s.length = ls at *
      have Hls := Lib.hid hls
      clear hls
      by_cases hlo : ls < m
      · have d5 : decide ((ls : Int) - (m : Int) < 0) = true := decide_eq_true (by omega)
        have HN := Lib.hid (HX1.out (HQ1.out.trans (if_pos hlo)))
        have HLEN : ∃ A5 c5, v = .slice A5 ls c5 := by obtain ⟨A5, c5, e, -, -, -⟩ := own_rdS Oi.out; rw [Hls.out] at e; exact ⟨A5, c5, e⟩
        obtain ⟨A5, c5, rfl⟩ := HLEN
        go_wp2_with fail
        refine (HO.out _).mono ?_
        rintro e w1 ⟨rfl, rfl⟩
        go_upto_region 13 with (fail)
        apply wp_region_relH (H := []) 15 [(Sum.inl _ : TT), (Sum.inl _ : TT), (Sum.inl _ : TT), (Sum.inl _ : TT), (Sum.inl _ : TT), (Sum.inl _ : TT), (Sum.inl _ : TT), (Sum.inl _ : TT), (Sum.inl _ : TT), (Sum.inl _ : TT), (Sum.inl _ : TT), (Sum.inl _ : TT), (Sum.inl _ : TT), (Sum.inl _ : TT), (Sum.inl _ : TT)] (by kernel_rfl) (by kernel_rfl) (fun _ _ _ _ _ h => h) rfl
        simp only [List.take_succ_cons, List.take_zero, List.drop_succ_cons, List.drop_zero]
        iterate 15 (apply rel_isS; (intro W hW hf; go_simp; first | exact ⟨StayS.refl _ _, rfl⟩ | rfl); simp only [Act.put, List.setIfInBounds_toArray, List.set_cons_succ, List.set_cons_zero])
        refine rel_endS ?_
        intro W hW hf
        try simp only [Act.put, List.setIfInBounds_toArray, List.set_cons_succ, List.set_cons_zero]
        refine wpList_nil ?_
        clear hf
        go_wp2_with fail
        go_ret3
        exact ⟨by rw [HN.out]; rfl, BA.out.trans ((Hi.out.trans (hW.mono Hi.out.size)).mono BA.out.size)⟩
      obtain ⟨g, cap, rfl, hcap, hcell⟩ := TyOwn.shape Oi.out (by rw [Hls.out]; omega)
      have HG := Lib.hid hcell
      clear hcell
      rw [Hls.out] at hcap HG
      have Hls2 : Hid (Value.slice (some ⟨g, 0, none⟩) s.length cap = .slice (some ⟨g, 0, none⟩) ls cap) := Lib.hid (by rw [Hls.out])
      rw [Hls2.out] at Oi ⊢
      obtain ⟨kk, hkk⟩ : ∃ kk, ls = kk + m := ⟨ls - m, by omega⟩
      have HKK := Lib.hid hkk
      have e14 : (ls : Int) - (m : Int) = kk := by omega
      have e15 : (ls : Int) - 1 = ((ls - 1 : Nat) : Int) := by omega
      have k1 : kk < ls := by omega
      have k2 : ls - 1 < ls := by omega
      have HQ2 : Hid (ot = if s.getD kk 0 = s.getD (ls - 1) 0 then stk1.pushT (resT op (s.getD kk 0)) (s.take kk) else none) := Lib.hid (by rw [HQ1.out, if_neg hlo, show ls - m = kk by omega])
      have TG : Hid (∀ W, Below wi.heap.size wi W → W.cell? ⟨g, kk, none⟩ = some (.int .u8 (s.getD kk 0)) ∧ W.cell? ⟨g, ls - 1, none⟩ = some (.int .u8 (s.getD (ls - 1) 0))) := Lib.hid (fun W hW => ⟨HG.out W hW kk k1, HG.out W hW (ls - 1) k2⟩)
      have OT : Hid (wi.ownsRow w0.heap.size 48 1 (.slice (some ⟨g, 0, none⟩) kk cap) kk (tyc (s.take kk))) := Lib.hid (by
        have h0 := Oi.out
        unfold TyOwn at h0
        rw [Hls.out] at h0
        have := own_take (k := kk) h0 (by omega)
        unfold tyc at this ⊢
        rwa [List.map_take])
      have HTL : Hid ((s.take kk).length = kk) := Lib.hid (by rw [List.length_take, Hls.out]; omega)
      generalize ls - 1 = la at *
      generalize s.getD kk 0 = sa at *
      generalize s.getD la 0 = sb at *
      generalize s.take kk = st2 at *
      have w15 : IntKind.i64.wrap (la : Int) = la := wi64 _ (by omega) (by omega)
      clear HQ1 HG hkk Oi
      go_wp2_with fail
      refine (HO.out _).mono ?_
      rintro e w1 ⟨rfl, rfl⟩
      go_upto_region 13 with (fail)
      by_cases hq : sa = sb
      rotate_left
      · have fq : (sa != sb) = true := by simpa using hq
        have HN := Lib.hid (HX1.out (HQ2.out.trans (if_neg hq)))
        apply wp_region_relH (H := []) 15 [(Sum.inl _ : TT), (Sum.inl _ : TT), (Sum.inl _ : TT), (Sum.inl _ : TT), (Sum.inl _ : TT), (Sum.inl _ : TT), (Sum.inl _ : TT), (Sum.inl _ : TT), (Sum.inl _ : TT), (Sum.inl _ : TT), (Sum.inl _ : TT), (Sum.inl _ : TT), (Sum.inl _ : TT), (Sum.inl _ : TT), (Sum.inl _ : TT)] (by kernel_rfl) (by kernel_rfl) (fun _ _ _ _ _ h => h) rfl
        simp only [List.take_succ_cons, List.take_zero, List.drop_succ_cons, List.drop_zero]
        iterate 15 (apply rel_isS; (intro W hW hf; obtain ⟨u0, u1⟩ := TG.out W hW; go_simp; first | exact ⟨StayS.refl _ _, rfl⟩ | rfl); simp only [Act.put, List.setIfInBounds_toArray, List.set_cons_succ, List.set_cons_zero])
        refine rel_endS ?_
        intro W hW hf
        try simp only [Act.put, List.setIfInBounds_toArray, List.set_cons_succ, List.set_cons_zero]
        refine wpList_nil ?_
        clear hf
        go_wp2_with fail
        go_ret3
        exact ⟨by rw [HN.out]; rfl, BA.out.trans ((Hi.out.trans (hW.mono Hi.out.size)).mono BA.out.size)⟩
      have fq : (sa != sb) = false := by simpa using hq
      have HQ3 := Lib.hid (HQ2.out.trans (if_pos hq))
      apply wp_region_relH (H := []) 15 [(Sum.inl _ : TT), (Sum.inl _ : TT), (Sum.inl _ : TT), (Sum.inl _ : TT), (Sum.inl _ : TT), (Sum.inl _ : TT), (Sum.inl _ : TT), (Sum.inl _ : TT), (Sum.inl _ : TT), (Sum.inl _ : TT), (Sum.inl _ : TT), (Sum.inl _ : TT), (Sum.inl _ : TT), (Sum.inl _ : TT), (Sum.inl _ : TT)] (by kernel_rfl) (by kernel_rfl) (fun _ _ _ _ _ h => h) rfl
      simp only [List.take_succ_cons, List.take_zero, List.drop_succ_cons, List.drop_zero]
      iterate 15 (apply rel_isS; (intro W hW hf; obtain ⟨u0, u1⟩ := TG.out W hW; go_simp; first | exact ⟨StayS.refl _ _, rfl⟩ | rfl); simp only [Act.put, List.setIfInBounds_toArray, List.set_cons_succ, List.set_cons_zero])
      refine rel_endS ?_
      intro W hW hf
      try simp only [Act.put, List.setIfInBounds_toArray, List.set_cons_succ, List.set_cons_zero]
      refine wpList_nil ?_
      clear hf c0 c1 c2 d0 d1 d2 y0 y1 y2 y3
      have Hv := Lib.hid hW
      clear hW fq hq
      have Ty : Hid (∀ W', Below W.heap.size W W' → W'.cell? ⟨wr.heap.size, 0, none⟩ = some (.int .u8 op)) := Lib.hid (fun W' h => (Ti.out W' (Hv.out.trans (h.mono Hv.out.size))).1)
      have TG2 : Hid (∀ W', Below W.heap.size W W' → W'.cell? ⟨g, kk, none⟩ = some (.int .u8 sa)) := Lib.hid (fun W' h => (TG.out W' (Hv.out.trans (h.mono Hv.out.size))).1)
      have OT2 := Lib.hid (own_below OT.out Hv.out)
      have Hw := Lib.hid (Hi.out.trans (Hv.out.mono Hi.out.size))
      have HRS2 := Lib.hid (HRS.out sa)
      generalize resT op sa = tt at *
      clear TG Ti OT HRS
      obtain ⟨w9, e9⟩ : ∃ x, x = W := ⟨_, rfl⟩; subst e9
      go_upto_region 15 with (fail)
      apply wp_region_relH (H := []) 8 [(Sum.inl _ : TT), (Sum.inl _ : TT), (Sum.inl _ : TT), (Sum.inl _ : TT), (Sum.inl _ : TT), (Sum.inl _ : TT), (Sum.inl _ : TT), (Sum.inl _ : TT)] (by kernel_rfl) (by kernel_rfl) (fun _ _ _ _ _ h => h) rfl
      simp only [List.take_succ_cons, List.take_zero, List.drop_succ_cons, List.drop_zero]
      iterate 6 (apply rel_isS; (intro W hW hf; have u0 := Ty.out W hW; have u1 := TG2.out W hW; go_simp; first | exact ⟨StayS.refl _ _, rfl⟩ | rfl); simp only [Act.put, List.setIfInBounds_toArray, List.set_cons_succ, List.set_cons_zero])
      apply rel_isS
      · intro W hW hf
        exact rel_callS hW rfl (by go_simp <;> first | rfl | exact ⟨rfl, rfl⟩ | exact ⟨rfl, rfl, rfl⟩) ((HRS2.out W).mono fun e w' ⟨a, b⟩ => ⟨_, a, b, rfl⟩)
      simp only [Act.put, List.setIfInBounds_toArray, List.set_cons_succ, List.set_cons_zero]
      iterate 1 (apply rel_isS; (intro W hW hf; go_simp; first | exact ⟨StayS.refl _ _, rfl⟩ | rfl); simp only [Act.put, List.setIfInBounds_toArray, List.set_cons_succ, List.set_cons_zero])
      refine rel_endS ?_
      intro W hW hf
      try simp only [Act.put, List.setIfInBounds_toArray, List.set_cons_succ, List.set_cons_zero]
      refine wpList_nil ?_
      clear hf
      go_upto_region 17 with (fail)
      have Ho1 : Hid (W.ownsRow w0.heap.size 48 1 (.slice (some ⟨g, 0, none⟩) kk cap) kk (tyc st2)) := Lib.hid (own_below OT2.out hW)
      have Hb1 := Lib.hid (Hw.out.trans (hW.mono Hw.out.size))
      obtain ⟨s1, e1⟩ : ∃ x, x = st2 := ⟨_, rfl⟩; subst e1
      obtain ⟨n1, e1⟩ : ∃ x, x = kk := ⟨_, rfl⟩; subst e1
      obtain ⟨v1, e1⟩ : ∃ x, x = Value.slice (some ⟨g, 0, none⟩) n1 cap := ⟨_, rfl⟩
      rw [← e1] at Ho1 ⊢
      have HL1 := HTL; have HP := HQ3
      have hn1 : n1 ≤ k := by omega
      clear e14 e15 w15 e1 HTL HQ2 HQ3
      by_cases z : tt = 0
      · subst z
        have HN := Lib.hid (HX1.out (HP.out.trans (if_pos rfl)))
        go_wp2_with fail
        go_ret3
        exact ⟨by rw [HN.out]; rfl, BA.out.trans (Hb1.out.mono BA.out.size)⟩
      · have dz : (tt == 0) = false := by simpa using z
        have HN := Lib.hid (HX2.out _ (HP.out.trans (if_neg z)))
        go_wp2_with (at_builtin; refine wpList_append_one0 ETy rfl (.tmp 84) (.tmp 86) rfl w0.heap.size (.int .u8 tt) rfl v1 n1 (tyc s1) rfl Ho1.out rfl (by omega) (by omega) w0 (Nat.le_refl _) Hb1.out ?_; intro v5 w5 h2 h3 h4 h5; clear h4 h5; have h6 := own_rdS h2; obtain ⟨A5, c5, rfl, -, -, -⟩ := h6; have O5 := Lib.hid h2; have B5 := Lib.hid h3; clear h2 h3)
        go_roundw
        case rel => exact ⟨k + 1, s1 ++ [tt], max h (n1 + 1), _, rfl, by omega, by rw [List.length_append, HL1.out]; exact Nat.succ_le_succ hn1, by omega, by go_num, by first | go_num | (simp; omega), by rw [HN.out, List.length_append, HL1.out]; rfl, by unfold TyOwn tyc; rw [List.length_append, List.map_append, HL1.out]; exact O5.out, B5.out⟩
        case measure => simp [intOf]; omega
    · obtain rfl : nc = k := by omega
      have HE : Hid (res = some (s, h)) := Lib.hid (by rw [Hr.out, show cd.drop nc = [] from by rw [← M3.out]; simp]; rfl)
      go_wp2_with fail
      go_ret3
      exact ⟨by rw [HE.out]; exact ⟨by omega, _, rfl, TyOwn.low Ho.out BA.out.size⟩, BA.out.trans (Hb.out.mono BA.out.size)⟩
end Go.Proofs.Ytbmpjphemjponaa
end

section
set_option linter.unusedSimpArgs false
set_option linter.unusedVariables false
namespace Go.Proofs.Ytbmpjphemjponaa
open Go.RowKit

theorem ndOk_loc {ns nl nn mt : Int} {n : Nd} (h : ndOk ns nl nn mt n = true) (e : n.kind = 1) : ∃ j : Nat, n.arg = j ∧ (j : Int) < nl := by
  unfold ndOk ndArg wi at h
  rw [if_pos e] at h
  simp only [Bool.and_eq_true, decide_eq_true_eq] at h
  exact ⟨n.arg.toNat, by omega, by omega⟩
theorem ndOk_sh {ns nl nn mt : Int} {n : Nd} (h : ndOk ns nl nn mt n = true) (e : n.kind = 2) : ∃ j : Nat, n.arg = j ∧ (j : Int) < ns := by
  unfold ndOk ndArg wi at h
  rw [if_neg (by omega), if_pos e] at h
  simp only [Bool.and_eq_true, decide_eq_true_eq] at h
  exact ⟨n.arg.toNat, by omega, by omega⟩
theorem fit_one (s : List Int) (t : Int) : fitT s (some t) = (decide (s.length = 1) && decide (s.getD 0 0 = t)) := by
  match s with
  | [] => simp [fitT]
  | [a] => simp [fitT]
  | a :: b :: l => simp [fitT]
theorem wantT_1 {sh lo : List Vl} {n : Nd} (e : n.kind = 1) : wantT sh lo n = some (lo.getD n.arg.toNat default).t := if_pos e
theorem wantT_2 {sh lo : List Vl} {n : Nd} (e : n.kind = 2) : wantT sh lo n = some (sh.getD n.arg.toNat default).t := by unfold wantT; rw [if_neg (by omega), if_pos e]
theorem wantT_5 {sh lo : List Vl} {n : Nd} (e : n.kind = 5 ∨ n.kind = 6) : wantT sh lo n = some 2 := by unfold wantT; rw [if_neg (by omega), if_neg (by omega), if_pos e]
theorem wantT_n {sh lo : List Vl} {n : Nd} (h1 : n.kind ≠ 1) (h2 : n.kind ≠ 2) (h5 : n.kind ≠ 5) (h6 : n.kind ≠ 6) : wantT sh lo n = none := by unfold wantT; rw [if_neg h1, if_neg h2, if_neg (by omega)]
set_option maxRecDepth 100000 in
set_option maxHeartbeats 4000000 in
theorem typed_any (sh : List Vl) (bd : Bd) (nb nn : Nat) (mt : Int) (p q p2 q2 p3 : Slc) (n : Nd) (h1 : sh.length ≤ 4000000) (h2 : bd.locals.length ≤ 4000000) (h3 : n.code.length ≤ 4000000) (hin : n.code.all (inOk sh.length bd.locals.length) = true) (hok : ndOk sh.length bd.locals.length nn mt n = true) (B : Nat) (w : World)
    (hs : VlsAt w B p sh) (hl : VlsAt w B p2 bd.locals) (hc : InsAt w B p3 n.code) (hB : B ≤ w.heap.size) :
    Calls Try.prog 56 #[cav p q sh.length nb mt, cav p2 q2 bd.locals.length nn bd.stack, ndv n p3] w fun e w' => e = .returned (.bool (ndTy sh bd n)) ∧ Below w.heap.size w w' := by
  have HS := Lib.hid (fun W (h : Below w.heap.size w W) => stack_any sh bd.locals nb nn mt bd.stack p q p2 q2 p3 n h1 h2 h3 hin B W (hs.below (h.mono hB)) (hl.below (h.mono hB)) (hc.below (h.mono hB)) (Nat.le_trans hB h.size))
  have HR : Hid (ndTy sh bd n = match stkL sh bd.locals n.code [] 0 with
    | none => false
    | some (s, h) => if bd.stack < (h : Int) then false else fitT s (wantT sh bd.locals n)) := Lib.hid rfl
  have HK1 := Lib.hid (fun e => ndOk_loc hok e); have HK2 := Lib.hid (fun e => ndOk_sh hok e)
  have HW1 := Lib.hid (fun e => wantT_1 (sh := sh) (lo := bd.locals) (n := n) e)
  have HW2 := Lib.hid (fun e => wantT_2 (sh := sh) (lo := bd.locals) (n := n) e)
  have HW5 := Lib.hid (fun e => wantT_5 (sh := sh) (lo := bd.locals) (n := n) e)
  have HWn := Lib.hid (fun a b c d => wantT_n (sh := sh) (lo := bd.locals) (n := n) a b c d)
  have HL1 := Lib.hid hs; have HL2 := Lib.hid hl
  unfold cav ndv at *
  clear hin hok hs hl hc
  generalize ndTy sh bd n = res at *
  generalize wantT sh bd.locals n = wt at *
  obtain ⟨lo, st, nds⟩ := bd
  dsimp only at *
  generalize stkL sh lo n.code [] 0 = sr at *
  obtain ⟨cd, kind, arg, next, alt⟩ := n
  obtain ⟨A, cp⟩ := p; obtain ⟨A', cp'⟩ := q; obtain ⟨A2, cp2⟩ := p2; obtain ⟨A2', cp2'⟩ := q2; obtain ⟨A3, cp3⟩ := p3
  dsimp only at *
  generalize hm1 : sh.length = ns at *
  generalize hm2 : lo.length = nl at *
  generalize hm3 : cd.length = nc at *
  have M1 := Lib.hid hm1; have M2 := Lib.hid hm2; have M3 := Lib.hid hm3
  clear hm1 hm2 hm3
  go_enter Try.func56, Try.ntmps56
  go_upto_region 1 with (fail)
  obtain ⟨b0_, b1_, b2_, hb_⟩ := boxes3 w (.cells #[.slice A ns cp, .int .i64 mt, .slice A' nb cp'] 25) (.cells #[.slice A2 nl cp2, .int .i64 st, .slice A2' nn cp2'] 57) (.cells #[.slice A3 nc cp3, .int .i64 kind, .int .i64 arg, .int .i64 next, .int .i64 alt] 60)
  generalize ((w.alloc (.cells #[.slice A ns cp, .int .i64 mt, .slice A' nb cp'] 25)).alloc (.cells #[.slice A2 nl cp2, .int .i64 st, .slice A2' nn cp2'] 57)).alloc (.cells #[.slice A3 nc cp3, .int .i64 kind, .int .i64 arg, .int .i64 next, .int .i64 alt] 60) = w0 at *
  have T0 : Hid (∀ W, Below w0.heap.size w0 W → W.cell? ⟨w.heap.size, 0, none⟩ = some (.slice A ns cp) ∧ W.cell? ⟨w.heap.size, 1, none⟩ = some (.int .i64 mt) ∧ W.cell? ⟨w.heap.size, 2, none⟩ = some (.slice A' nb cp')) := Lib.hid (fun W hW => by have e := (hW.block _ (lt_blk b0_)).trans b0_; exact ⟨by rw [cell_blk e]; rfl, by rw [cell_blk e]; rfl, by rw [cell_blk e]; rfl⟩)
  have T1 : Hid (∀ W, Below w0.heap.size w0 W → W.cell? ⟨w.heap.size + 1, 0, none⟩ = some (.slice A2 nl cp2) ∧ W.cell? ⟨w.heap.size + 1, 1, none⟩ = some (.int .i64 st) ∧ W.cell? ⟨w.heap.size + 1, 2, none⟩ = some (.slice A2' nn cp2')) := Lib.hid (fun W hW => by have e := (hW.block _ (lt_blk b1_)).trans b1_; exact ⟨by rw [cell_blk e]; rfl, by rw [cell_blk e]; rfl, by rw [cell_blk e]; rfl⟩)
  have T2 : Hid (∀ W, Below w0.heap.size w0 W → W.cell? ⟨w.heap.size + 1 + 1, 0, none⟩ = some (.slice A3 nc cp3) ∧ W.cell? ⟨w.heap.size + 1 + 1, 1, none⟩ = some (.int .i64 kind) ∧ W.cell? ⟨w.heap.size + 1 + 1, 2, none⟩ = some (.int .i64 arg) ∧ W.cell? ⟨w.heap.size + 1 + 1, 3, none⟩ = some (.int .i64 next) ∧ W.cell? ⟨w.heap.size + 1 + 1, 4, none⟩ = some (.int .i64 alt)) := Lib.hid (fun W hW => by have e := (hW.block _ (lt_blk b2_)).trans b2_; exact ⟨by rw [cell_blk e]; rfl, by rw [cell_blk e]; rfl, by rw [cell_blk e]; rfl, by rw [cell_blk e]; rfl, by rw [cell_blk e]; rfl⟩)
  have BA := Lib.hid hb_
  clear hb_ b0_ b1_ b2_
  obtain ⟨a0, a1, a2⟩ := T0.out w0 (Below.refl _ _)
  obtain ⟨b0, b1, b2⟩ := T1.out w0 (Below.refl _ _)
  obtain ⟨c0, c1, c2, c3, c4⟩ := T2.out w0 (Below.refl _ _)
  go_wp2_with fail
  refine (HS.out _ BA.out).mono ?_
  rintro e w1 ⟨hst, hb1⟩
  clear a0 a1 a2 b0 b1 b2 c0 c1 c2 c3 c4 HS
  have T0 := Lib.hid (fun W (h : Below w1.heap.size w1 W) => T0.out W (hb1.trans (h.mono hb1.size)))
  have T1 := Lib.hid (fun W (h : Below w1.heap.size w1 W) => T1.out W (hb1.trans (h.mono hb1.size)))
  have T2 := Lib.hid (fun W (h : Below w1.heap.size w1 W) => T2.out W (hb1.trans (h.mono hb1.size)))
  have HB := Lib.hid (BA.out.trans (hb1.mono BA.out.size))
  clear hb1
  obtain ⟨b0, b1, b2⟩ := T1.out w1 (Below.refl _ _)
  obtain ⟨c0, c1, c2, c3, c4⟩ := T2.out w1 (Below.refl _ _)
  cases sr with
  | none =>
    have hst : e = .returned (.tuple #[.slice none 0 0, .int .i64 0, .bool false]) := hst
    subst hst
    go_wp2_with fail
    go_ret
    exact ⟨ret_bool HR.out.symm, HB.out⟩
  | some sh2 =>
    obtain ⟨s, h⟩ := sh2
    obtain ⟨hsl, v, rfl, hown⟩ : s.length ≤ 4000000 ∧ ∃ v, e = .returned (.tuple #[v, .int .i64 h, .bool true]) ∧ TyOwn w1 w0.heap.size v s := hst
    have HQ0 : Hid (res = if st < (h : Int) then false else fitT s wt) := Lib.hid HR.out
    have HO := Lib.hid hown
    clear hown HR
    by_cases hh : st < (h : Int)
    · have d1 : decide (st < (h : Int)) = true := decide_eq_true hh
      go_wp2_with fail
      go_ret
      exact ⟨ret_bool (by rw [HQ0.out, if_pos (by omega)]), HB.out⟩
    have d1 : decide (st < (h : Int)) = false := decide_eq_false hh
    have HQ1 : Hid (res = fitT s wt) := Lib.hid (HQ0.out.trans (if_neg hh))
    have HV : Hid (∃ A5 c5, v = .slice A5 s.length c5) := Lib.hid (by have h6 := own_rdS HO.out; obtain ⟨A5, c5, e, -, -, -⟩ := h6; exact ⟨A5, c5, e⟩)
    have HV2 : Hid (s.length = 1 → ∃ g cap, v = .slice (some ⟨g, 0, none⟩) 1 cap ∧ 1 ≤ cap ∧ ∀ W, Below w1.heap.size w1 W → W.cell? ⟨g, 0, none⟩ = some (.int .u8 (s.getD 0 0))) := Lib.hid (fun e => by
      obtain ⟨g, cap, h1, h2, h3⟩ := TyOwn.shape HO.out (by omega)
      rw [e] at h1 h2
      exact ⟨g, cap, h1, h2, fun W hW => h3 W hW 0 (by omega)⟩)
    have HF : Hid (∀ t, wt = some t → res = (decide (s.length = 1) && decide (s.getD 0 0 = t))) := Lib.hid (fun t e => by rw [HQ1.out, e, fit_one])
    have HF0 : Hid (wt = none → res = decide (s.length = 0)) := Lib.hid (fun e => by rw [HQ1.out, e]; rfl)
    clear HQ0 HQ1 hh HO
    generalize s.getD 0 0 = a at *
    generalize s.length = ls at *
    obtain ⟨A5, c5, rfl⟩ := HV.out
    clear HV
    by_cases g1 : kind = 1
    · subst g1
      obtain ⟨j, rfl, hj⟩ := HK1.out rfl
      have hj : j < nl := by omega
      have HQ : Hid (res = (decide (ls = 1) && decide (a = (lo.getD j default).t))) := Lib.hid (HF.out _ (HW1.out rfl))
      clear HK1 HK2 HW1 HW2 HW5 HWn HF HF0
      obtain ⟨b2', o2, rfl, hb2, l0, -⟩ := VlsAt.cells HL2.out (show j < lo.length by rw [M2.out]; exact hj)
      have HLT : Hid (∀ W, Below w1.heap.size w1 W → W.cell? ⟨b2', o2 + j * 2, none⟩ = some (.int .u8 (lo.getD j default).t)) := Lib.hid (fun W hW => ((HB.out.trans (hW.mono HB.out.size)).cell (p := ⟨b2', _, none⟩) (Nat.lt_of_lt_of_le hb2 hB)).trans l0)
      have HAR := Lib.hid (fun W hW => (T2.out W hW).2.2.1)
      have HSL := Lib.hid (fun W hW => (T1.out W hW).1)
      have HV : Hid (ls = 1 → _) := HV2
      clear HV2 l0
      generalize (lo.getD j default).t = lt at *
      go_upto_region 6 with (fail)
      clear b0 b1 b2 c0 c1 c2 c3 c4
      by_cases g : ls = 1
      rotate_left
      · have d : ((ls : Int) == 1) = false := by rw [beq_eq_false_iff_ne]; omega
        have HN := Lib.hid (HQ.out.trans (show _ = false by rw [decide_eq_false g]; rfl))
        apply wp_region_relH (H := []) 17 [(Sum.inl _ : TT), (Sum.inl _ : TT), (Sum.inl _ : TT), (Sum.inl _ : TT), (Sum.inl _ : TT), (Sum.inl _ : TT), (Sum.inl _ : TT), (Sum.inl _ : TT), (Sum.inl _ : TT), (Sum.inl _ : TT), (Sum.inl _ : TT), (Sum.inl _ : TT), (Sum.inl _ : TT), (Sum.inl _ : TT), (Sum.inl _ : TT), (Sum.inl _ : TT), (Sum.inl _ : TT)] (by kernel_rfl) (by kernel_rfl) (fun _ _ _ _ _ h => h) rfl
        simp only [List.take_succ_cons, List.take_zero, List.drop_succ_cons, List.drop_zero]
        iterate 17 (apply rel_isS; (intro W hW hf; go_simp; first | exact ⟨StayS.refl _ _, rfl⟩ | rfl); simp only [Act.put, List.setIfInBounds_toArray, List.set_cons_succ, List.set_cons_zero])
        refine rel_endS ?_
        intro W hW hf
        try simp only [Act.put, List.setIfInBounds_toArray, List.set_cons_succ, List.set_cons_zero]
        refine wpList_nil ?_
        clear hf
        go_wp2_with fail
        go_ret
        exact ⟨ret_bool HN.out.symm, HB.out.trans (hW.mono HB.out.size)⟩
      subst g
      have HCell := Lib.hid (HV.out rfl)
      clear HV
      obtain ⟨g, cap, hvv, hcap, hcell⟩ := HCell.out
      injection hvv with q1 q2 q3
      subst q1 q3
      have HN : Hid (res = decide (a = lt)) := Lib.hid HQ.out
      have HCE := Lib.hid hcell
      clear hcell HCell HQ
      generalize hq : decide (a = lt) = q at *
      have fq : (a == lt) = q := hq
      clear hq
      apply wp_region_relH (H := []) 17 [(Sum.inl _ : TT), (Sum.inl _ : TT), (Sum.inl _ : TT), (Sum.inl _ : TT), (Sum.inl _ : TT), (Sum.inl _ : TT), (Sum.inl _ : TT), (Sum.inl _ : TT), (Sum.inl _ : TT), (Sum.inl _ : TT), (Sum.inl _ : TT), (Sum.inl _ : TT), (Sum.inl _ : TT), (Sum.inl _ : TT), (Sum.inl _ : TT), (Sum.inl _ : TT), (Sum.inl _ : TT)] (by kernel_rfl) (by kernel_rfl) (fun _ _ _ _ _ h => h) rfl
      simp only [List.take_succ_cons, List.take_zero, List.drop_succ_cons, List.drop_zero]
      iterate 17 (apply rel_isS; (intro W hW hf; have u0 := HCE.out W hW; have u1 := HLT.out W hW; have u2 := HAR.out W hW; have u3 := HSL.out W hW; go_simp; first | exact ⟨StayS.refl _ _, rfl⟩ | rfl); simp only [Act.put, List.setIfInBounds_toArray, List.set_cons_succ, List.set_cons_zero])
      refine rel_endS ?_
      intro W hW hf
      try simp only [Act.put, List.setIfInBounds_toArray, List.set_cons_succ, List.set_cons_zero]
      refine wpList_nil ?_
      clear hf
      go_wp2_with fail
      go_ret
      exact ⟨ret_bool HN.out.symm, HB.out.trans (hW.mono HB.out.size)⟩
    by_cases g2 : kind = 2
    · subst g2
      obtain ⟨j, rfl, hj⟩ := HK2.out rfl
      have hj : j < ns := by omega
      have HQ : Hid (res = (decide (ls = 1) && decide (a = (sh.getD j default).t))) := Lib.hid (HF.out _ (HW2.out rfl))
      clear HK1 HK2 HW1 HW2 HW5 HWn HF HF0
      obtain ⟨b2', o2, rfl, hb2, l0, -⟩ := VlsAt.cells HL1.out (show j < sh.length by rw [M1.out]; exact hj)
      have HLT : Hid (∀ W, Below w1.heap.size w1 W → W.cell? ⟨b2', o2 + j * 2, none⟩ = some (.int .u8 (sh.getD j default).t)) := Lib.hid (fun W hW => ((HB.out.trans (hW.mono HB.out.size)).cell (p := ⟨b2', _, none⟩) (Nat.lt_of_lt_of_le hb2 hB)).trans l0)
      have HAR := Lib.hid (fun W hW => (T2.out W hW).2.2.1)
      have HSL := Lib.hid (fun W hW => (T0.out W hW).1)
      have HV : Hid (ls = 1 → _) := HV2
      clear HV2 l0
      generalize (sh.getD j default).t = lt at *
      go_upto_region 8 with (fail)
      clear b0 b1 b2 c0 c1 c2 c3 c4
      by_cases g : ls = 1
      rotate_left
      · have d : ((ls : Int) == 1) = false := by rw [beq_eq_false_iff_ne]; omega
        have HN := Lib.hid (HQ.out.trans (show _ = false by rw [decide_eq_false g]; rfl))
        apply wp_region_relH (H := []) 17 [(Sum.inl _ : TT), (Sum.inl _ : TT), (Sum.inl _ : TT), (Sum.inl _ : TT), (Sum.inl _ : TT), (Sum.inl _ : TT), (Sum.inl _ : TT), (Sum.inl _ : TT), (Sum.inl _ : TT), (Sum.inl _ : TT), (Sum.inl _ : TT), (Sum.inl _ : TT), (Sum.inl _ : TT), (Sum.inl _ : TT), (Sum.inl _ : TT), (Sum.inl _ : TT), (Sum.inl _ : TT)] (by kernel_rfl) (by kernel_rfl) (fun _ _ _ _ _ h => h) rfl
        simp only [List.take_succ_cons, List.take_zero, List.drop_succ_cons, List.drop_zero]
        iterate 17 (apply rel_isS; (intro W hW hf; go_simp; first | exact ⟨StayS.refl _ _, rfl⟩ | rfl); simp only [Act.put, List.setIfInBounds_toArray, List.set_cons_succ, List.set_cons_zero])
        refine rel_endS ?_
        intro W hW hf
        try simp only [Act.put, List.setIfInBounds_toArray, List.set_cons_succ, List.set_cons_zero]
        refine wpList_nil ?_
        clear hf
        go_wp2_with fail
        go_ret
        exact ⟨ret_bool HN.out.symm, HB.out.trans (hW.mono HB.out.size)⟩
      subst g
      have HCell := Lib.hid (HV.out rfl)
      clear HV
      obtain ⟨g, cap, hvv, hcap, hcell⟩ := HCell.out
      injection hvv with q1 q2 q3
      subst q1 q3
      have HN : Hid (res = decide (a = lt)) := Lib.hid HQ.out
      have HCE := Lib.hid hcell
      clear hcell HCell HQ
      generalize hq : decide (a = lt) = q at *
      have fq : (a == lt) = q := hq
      clear hq
      apply wp_region_relH (H := []) 17 [(Sum.inl _ : TT), (Sum.inl _ : TT), (Sum.inl _ : TT), (Sum.inl _ : TT), (Sum.inl _ : TT), (Sum.inl _ : TT), (Sum.inl _ : TT), (Sum.inl _ : TT), (Sum.inl _ : TT), (Sum.inl _ : TT), (Sum.inl _ : TT), (Sum.inl _ : TT), (Sum.inl _ : TT), (Sum.inl _ : TT), (Sum.inl _ : TT), (Sum.inl _ : TT), (Sum.inl _ : TT)] (by kernel_rfl) (by kernel_rfl) (fun _ _ _ _ _ h => h) rfl
      simp only [List.take_succ_cons, List.take_zero, List.drop_succ_cons, List.drop_zero]
      iterate 17 (apply rel_isS; (intro W hW hf; have u0 := HCE.out W hW; have u1 := HLT.out W hW; have u2 := HAR.out W hW; have u3 := HSL.out W hW; go_simp; first | exact ⟨StayS.refl _ _, rfl⟩ | rfl); simp only [Act.put, List.setIfInBounds_toArray, List.set_cons_succ, List.set_cons_zero])
      refine rel_endS ?_
      intro W hW hf
      try simp only [Act.put, List.setIfInBounds_toArray, List.set_cons_succ, List.set_cons_zero]
      refine wpList_nil ?_
      clear hf
      go_wp2_with fail
      go_ret
      exact ⟨ret_bool HN.out.symm, HB.out.trans (hW.mono HB.out.size)⟩
    by_cases g5 : kind = 5
    · subst g5
      have HQ : Hid (res = (decide (ls = 1) && decide (a = 2))) := Lib.hid (HF.out _ (HW5.out (by decide)))
      clear HK1 HK2 HW1 HW2 HW5 HWn HF HF0
      by_cases g : ls = 1
      rotate_left
      · have d : ((ls : Int) == 1) = false := by rw [beq_eq_false_iff_ne]; omega
        have HN := Lib.hid (HQ.out.trans (show _ = false by rw [decide_eq_false g]; rfl))
        go_wp2_with fail
        go_ret
        exact ⟨ret_bool HN.out.symm, HB.out⟩
      subst g
      have HCell := Lib.hid (HV2.out rfl)
      clear HV2
      obtain ⟨g, cap, hvv, hcap, hcell⟩ := HCell.out
      injection hvv with q1 q2 q3
      subst q1 q3
      have HN : Hid (res = decide (a = 2)) := Lib.hid HQ.out
      have u0 := hcell w1 (Below.refl _ _)
      clear hcell HCell HQ
      generalize hq : decide (a = 2) = q at *
      have fq : (a == 2) = q := hq
      clear hq
      go_wp2_with fail
      go_ret
      exact ⟨ret_bool HN.out.symm, HB.out⟩
    by_cases g6 : kind = 6
    · subst g6
      have HQ : Hid (res = (decide (ls = 1) && decide (a = 2))) := Lib.hid (HF.out _ (HW5.out (by decide)))
      clear HK1 HK2 HW1 HW2 HW5 HWn HF HF0
      by_cases g : ls = 1
      rotate_left
      · have d : ((ls : Int) == 1) = false := by rw [beq_eq_false_iff_ne]; omega
        have HN := Lib.hid (HQ.out.trans (show _ = false by rw [decide_eq_false g]; rfl))
        go_wp2_with fail
        go_ret
        exact ⟨ret_bool HN.out.symm, HB.out⟩
      subst g
      have HCell := Lib.hid (HV2.out rfl)
      clear HV2
      obtain ⟨g, cap, hvv, hcap, hcell⟩ := HCell.out
      injection hvv with q1 q2 q3
      subst q1 q3
      have HN : Hid (res = decide (a = 2)) := Lib.hid HQ.out
      have u0 := hcell w1 (Below.refl _ _)
      clear hcell HCell HQ
      generalize hq : decide (a = 2) = q at *
      have fq : (a == 2) = q := hq
      clear hq
      go_wp2_with fail
      go_ret
      exact ⟨ret_bool HN.out.symm, HB.out⟩
    have q1 : (kind == 1) = false := by simpa using g1
    have q2 : (kind == 2) = false := by simpa using g2
    have q5 : (kind == 5) = false := by simpa using g5
    have q6 : (kind == 6) = false := by simpa using g6
    have HN := Lib.hid (HF0.out (HWn.out g1 g2 g5 g6))
    have HN2 : Hid (res = ((ls : Int) == 0)) := Lib.hid (by rw [HN.out]; by_cases h : ls = 0 <;> simp [h])
    clear HK1 HK2 HW1 HW2 HW5 HWn HF HF0 HV2 g1 g2 g5 g6
    go_wp2_with fail
    go_ret
    exact ⟨ret_bool HN2.out.symm, HB.out⟩
set_option maxRecDepth 100000 in
set_option maxHeartbeats 1000000 in
theorem touches_any (n : Nd) (p3 : Slc) (h3 : n.code.length ≤ 4000000) (B : Nat) (w : World) (hc : InsAt w B p3 n.code) (hB : B ≤ w.heap.size) :
    Calls Try.prog 58 #[ndv n p3] w fun e w' => e = .returned (.int .i64 (ndTo n)) ∧ Below w.heap.size w w' := by
  have HR : Hid (ndTo n = n.code.countP isF + if n.kind = 2 then 1 else 0) := Lib.hid rfl
  have HC := Lib.hid hc
  unfold ndv
  clear hc
  generalize ndTo n = res at *
  obtain ⟨cd, kind, arg, next, alt⟩ := n
  obtain ⟨A3, cp3⟩ := p3
  dsimp only at *
  generalize hm3 : cd.length = nc at *
  have M3 := Lib.hid hm3
  clear hm3
  go_enter Try.func58, Try.ntmps58
  go_upto_region 1 with (fail)
  obtain ⟨b0_, hb_⟩ := boxes1 w (.cells #[.slice A3 nc cp3, .int .i64 kind, .int .i64 arg, .int .i64 next, .int .i64 alt] 60)
  generalize w.alloc (.cells #[.slice A3 nc cp3, .int .i64 kind, .int .i64 arg, .int .i64 next, .int .i64 alt] 60) = w0 at *
  have T2 : Hid (∀ W, Below w0.heap.size w0 W → W.cell? ⟨w.heap.size, 0, none⟩ = some (.slice A3 nc cp3) ∧ W.cell? ⟨w.heap.size, 1, none⟩ = some (.int .i64 kind) ∧ W.cell? ⟨w.heap.size, 2, none⟩ = some (.int .i64 arg) ∧ W.cell? ⟨w.heap.size, 3, none⟩ = some (.int .i64 next) ∧ W.cell? ⟨w.heap.size, 4, none⟩ = some (.int .i64 alt)) := Lib.hid (fun W hW => by have e := (hW.block _ (lt_blk b0_)).trans b0_; exact ⟨by rw [cell_blk e]; rfl, by rw [cell_blk e]; rfl, by rw [cell_blk e]; rfl, by rw [cell_blk e]; rfl, by rw [cell_blk e]; rfl⟩)
  have BA := Lib.hid hb_
  clear hb_ b0_
  obtain ⟨c0, -, -, -, -⟩ := T2.out w0 (Below.refl _ _)
  go_wp2_with fail
  clear c0
  go_loopw [3, 9] (fun cv iv wr => ∃ (k c : Nat), k ≤ nc ∧ c ≤ k ∧ iv = .int .i64 k ∧ cv = .int .i64 c ∧ (cd.take k).countP isF = c ∧ Below w0.heap.size w0 wr) (fun _ iv _ => nc - (intOf iv).toNat)
  case atStart => exact ⟨0, 0, by omega, by omega, rfl, rfl, by simp, Below.refl _ _⟩
  case round =>
    obtain ⟨k, c, hk, hck, rfl, rfl, hcnt, hb⟩ := hrel
    have Hb := Lib.hid hb; have Hcnt := Lib.hid hcnt
    clear hb hcnt
    by_cases hlt : k < nc
    · obtain ⟨b, o, rfl, hb1, x0, x1, x2, x3⟩ := InsAt.cells HC.out (show k < cd.length by rw [M3.out]; exact hlt)
      have HB := Lib.hid (BA.out.trans (Hb.out.mono BA.out.size))
      have x0 := (HB.out.cell (p := ⟨b, _, none⟩) (Nat.lt_of_lt_of_le hb1 hB)).trans x0
      have x1 := (HB.out.cell (p := ⟨b, _, none⟩) (Nat.lt_of_lt_of_le hb1 hB)).trans x1
      have x2 := (HB.out.cell (p := ⟨b, _, none⟩) (Nat.lt_of_lt_of_le hb1 hB)).trans x2
      have x3 := (HB.out.cell (p := ⟨b, _, none⟩) (Nat.lt_of_lt_of_le hb1 hB)).trans x3
      have HS : Hid ((cd.take (k + 1)).countP isF = c + if (cd.getD k default).op = 31 then 1 else 0) := Lib.hid (by
        rw [List.take_succ_eq_append_getElem (by rw [M3.out]; exact hlt), List.countP_append, Hcnt.out, List.getD_eq_getElem?_getD, List.getElem?_eq_getElem (by rw [M3.out]; exact hlt)]
        simp [List.countP_cons, isF])
      generalize cd.getD k default = i at *
      obtain ⟨op, ag, t, bt⟩ := i
      dsimp only at *
      by_cases g : op = 31
      · subst g
        have HS1 : Hid ((cd.take (k + 1)).countP isF = c + 1) := Lib.hid (by rw [HS.out, if_pos rfl])
        go_wp2_with fail
        go_roundw
        case rel => exact ⟨k + 1, c + 1, by omega, by omega, by go_num, by go_num, HS1.out, Hb.out.alloc Hb.out.size _⟩
        case measure => simp [intOf]; omega
      · have HS1 : Hid ((cd.take (k + 1)).countP isF = c) := Lib.hid (by rw [HS.out, if_neg g]; rfl)
        have q : (op == 31) = false := by simpa using g
        clear g
        go_wp2_with fail
        go_roundw
        case rel => exact ⟨k + 1, c, by omega, by omega, by go_num, rfl, HS1.out, Hb.out.alloc Hb.out.size _⟩
        case measure => simp [intOf]; omega
    · obtain rfl : nc = k := by omega
      have HS : Hid (cd.countP isF = c) := Lib.hid (by have := Hcnt.out; rwa [List.take_of_length_le (by rw [M3.out]; exact Nat.le_refl _)] at this)
      obtain ⟨-, c1, -, -, -⟩ := T2.out wr Hb.out
      by_cases g : kind = 2
      · subst g
        have HN : Hid (res = c + 1) := Lib.hid (by rw [HR.out, HS.out, if_pos rfl])
        go_wp2_with fail
        go_ret
        exact ⟨ret_int (by rw [HN.out]; rfl), BA.out.trans (Hb.out.mono BA.out.size)⟩
      · have HN : Hid (res = c) := Lib.hid (by rw [HR.out, HS.out, if_neg g]; rfl)
        have q : (kind == 2) = false := by simpa using g
        go_wp2_with fail
        go_ret
        exact ⟨ret_int (by rw [HN.out]), BA.out.trans (Hb.out.mono BA.out.size)⟩
end Go.Proofs.Ytbmpjphemjponaa
end

section
set_option linter.unusedSimpArgs false
set_option linter.unusedVariables false
namespace Go.Proofs.Ytbmpjphemjponaa
open Go.RowKit

set_option maxRecDepth 100000 in
set_option maxHeartbeats 4000000 in
theorem nodes_1 (g1 : Nat) (f : Bd → Nd → Bool) (c : Cd) (s : CdSmall c) (p p2 : Slc) (B : Nat) (w : World) (h2 : BdsAt w B p2 c.bodies) (hB : B ≤ w.heap.size)
    (hf : ∀ W, Below w.heap.size w W → ∀ k, k < c.bodies.length → ∀ j, j < (c.bodies.getD k default).nodes.length → ∀ p q r, VlsAt W B p (c.bodies.getD k default).locals → InsAt W B r ((c.bodies.getD k default).nodes.getD j default).code →
      Calls Try.prog 55 #[bdv (c.bodies.getD k default) p q, ndv ((c.bodies.getD k default).nodes.getD j default) r, .pointer (some ⟨g1, 0, none⟩)] W fun e w' => e = .returned (.bool (f (c.bodies.getD k default) ((c.bodies.getD k default).nodes.getD j default))) ∧ Below W.heap.size W w') :
    Calls Try.prog 54 #[cdv c p p2, .func (.func 55) #[] #[.pointer (some ⟨g1, 0, none⟩)]] w fun e w' => e = .returned (.bool (allN f c.bodies)) ∧ Below w.heap.size w w' := by
  have HF := Lib.hid hf
  have H2 := Lib.hid h2
  have W1 := Lib.hid s.2.2
  have L1 := s.1; have L2 := s.2.1
  have HR : Hid (allN f c.bodies = c.bodies.all fun b => b.nodes.all fun n => f b n) := Lib.hid rfl
  clear h2 s hf
  unfold cdv
  generalize allN f c.bodies = res at *
  obtain ⟨sh, mt, bs⟩ := c
  obtain ⟨A, cp⟩ := p
  obtain ⟨A', cp'⟩ := p2
  dsimp only at *
  generalize sh.length = n1 at *
  generalize hn2 : bs.length = n2 at *
  have N2 := Lib.hid hn2
  clear hn2
  go_enter Try.func54, Try.ntmps54
  go_upto_region 1 with (fail)
  obtain ⟨b0_, hb_⟩ := boxes1 w (.cells #[.slice A n1 cp, .int .i64 mt, .slice A' n2 cp'] 25)
  generalize w.alloc (.cells #[.slice A n1 cp, .int .i64 mt, .slice A' n2 cp'] 25) = w0 at *
  have T0 : Hid (∀ W, Below w0.heap.size w0 W → W.cell? ⟨w.heap.size, 0, none⟩ = some (.slice A n1 cp) ∧ W.cell? ⟨w.heap.size, 1, none⟩ = some (.int .i64 mt) ∧ W.cell? ⟨w.heap.size, 2, none⟩ = some (.slice A' n2 cp')) := Lib.hid (fun W hW => by have e := (hW.block _ (lt_blk b0_)).trans b0_; exact ⟨by rw [cell_blk e]; rfl, by rw [cell_blk e]; rfl, by rw [cell_blk e]; rfl⟩)
  have HB := Lib.hid hb_
  clear hb_ b0_
  obtain ⟨-, -, c2⟩ := T0.out w0 (Below.refl _ _)
  go_wp2_with fail
  clear c2
  go_loopw [12] (fun iv wr => ∃ k : Nat, k ≤ n2 ∧ iv = .int .i64 k ∧ Below w.heap.size w wr ∧ ∀ i, i < k → (bs.getD i default).nodes.all (f (bs.getD i default)) = true) (fun iv _ => n2 - (intOf iv).toNat)
  case atStart => exact ⟨0, by omega, rfl, HB.out, fun i hi => by omega⟩
  case round =>
    obtain ⟨wo, rfl⟩ : ∃ x, x = wr := ⟨wr, rfl⟩
    obtain ⟨k, hk, rfl, hb, ho⟩ := hrel
    have Hb := Lib.hid hb
    have Ho := Lib.hid ho
    clear hb ho
    by_cases hlt : k < n2
    · obtain ⟨b, o, ⟨P0, pc0⟩, ⟨Q1, qc1⟩, hA', hb1, x0, x1, x2, hv, hn⟩ := BdsAt.cells H2.out (show k < bs.length by rw [N2.out]; exact hlt)
      dsimp only at hA' x0 x2
      subst hA'
      have y0 := (Hb.out.cell (p := ⟨b, _, none⟩) (Nat.lt_of_lt_of_le hb1 hB)).trans x0
      have y1 := (Hb.out.cell (p := ⟨b, _, none⟩) (Nat.lt_of_lt_of_le hb1 hB)).trans x1
      have y2 := (Hb.out.cell (p := ⟨b, _, none⟩) (Nat.lt_of_lt_of_le hb1 hB)).trans x2
      have R1 := Lib.hid (W1.out k hlt)
      have HI := Lib.hid hn
      have HX : Hid ((bs.getD k default).nodes.all (f (bs.getD k default)) = false → res = false) := Lib.hid (fun h => by rw [HR.out]; exact all_not (by rw [N2.out]; exact hlt) h)
      have HY : Hid ((bs.getD k default).nodes.all (f (bs.getD k default)) = true → ∀ i, i < k + 1 → (bs.getD i default).nodes.all (f (bs.getD i default)) = true) := Lib.hid (fun h i hi => by
        by_cases e : i = k
        · rw [e]; exact h
        · exact Ho.out i (by omega))
      have HF1 := Lib.hid (fun W (hW : Below w.heap.size w W) j hj r hr => HF.out W hW k hlt j hj (P0, pc0) (Q1, qc1) r (hv.below (hW.mono hB)) hr)
      clear x0 x1 x2 hv hn
      generalize bs.getD k default = a at *
      obtain ⟨al, ks, an⟩ := a
      have L4 : an.length ≤ 4000000 := R1.out.2.1
      have R1n : Hid (∀ j, j < an.length → (an.getD j default).code.length ≤ 4000000) := Lib.hid R1.out.2.2
      generalize hfa : f ⟨al, ks, an⟩ = fa at *
      clear hfa
      unfold bdv at HF1
      dsimp only at *
      generalize al.length = l1 at *
      generalize hl3 : an.length = l3 at *
      have M3 := Lib.hid hl3
      clear hl3 R1
      go_upto_region 4 with (fail)
      clear y0 y1 y2
      obtain ⟨b0_, hb_⟩ := boxes1 wo (.cells #[.slice P0 l1 pc0, .int .i64 ks, .slice Q1 l3 qc1] 57)
      generalize wo.alloc (.cells #[.slice P0 l1 pc0, .int .i64 ks, .slice Q1 l3 qc1] 57) = wa at *
      have Ta : Hid (∀ W, Below wa.heap.size wa W → W.cell? ⟨wo.heap.size, 0, none⟩ = some (.slice P0 l1 pc0) ∧ W.cell? ⟨wo.heap.size, 1, none⟩ = some (.int .i64 ks) ∧ W.cell? ⟨wo.heap.size, 2, none⟩ = some (.slice Q1 l3 qc1)) := Lib.hid (fun W hW => by have e := (hW.block _ (lt_blk b0_)).trans b0_; exact ⟨by rw [cell_blk e]; rfl, by rw [cell_blk e]; rfl, by rw [cell_blk e]; rfl⟩)
      have Ba0 := Lib.hid hb_
      clear hb_ b0_
      have Ha := Lib.hid (Hb.out.trans (Ba0.out.mono Hb.out.size))
      obtain ⟨a0, a1, a2⟩ := Ta.out wa (Below.refl _ _)
      go_wp2_with fail
      clear a0 a1 a2
      go_loopw [19] (fun iv wi => ∃ j : Nat, j ≤ l3 ∧ iv = .int .i64 j ∧ Below w.heap.size w wi ∧ Below wa.heap.size wa wi ∧ ∀ i, i < j → fa (an.getD i default) = true) (fun iv _ => l3 - (intOf iv).toNat)
      case atStart => exact ⟨0, by omega, rfl, Ha.out, Below.refl _ _, fun i hi => by omega⟩
      case round =>
        obtain ⟨j, hj, rfl, hbi, hfi, hoi⟩ := hrel
        have Hbi := Lib.hid hbi; have Hfi := Lib.hid hfi; have Hoi := Lib.hid hoi
        clear hbi hfi hoi
        by_cases hlt2 : j < l3
        · obtain ⟨b3, o3, ⟨e0, e1⟩, hP, hb3, x3, x4, x5, x6, x7, g0⟩ := NdsAt.cells HI.out (show j < an.length by rw [M3.out]; exact hlt2)
          dsimp only at hP x3
          have lb : b3 < w.heap.size := Nat.lt_of_lt_of_le hb3 hB
          have x3 := (Hbi.out.cell (p := ⟨b3, _, none⟩) lb).trans x3
          have x4 := (Hbi.out.cell (p := ⟨b3, _, none⟩) lb).trans x4
          have x5 := (Hbi.out.cell (p := ⟨b3, _, none⟩) lb).trans x5
          have x6 := (Hbi.out.cell (p := ⟨b3, _, none⟩) lb).trans x6
          have x7 := (Hbi.out.cell (p := ⟨b3, _, none⟩) lb).trans x7
          have HU : Hid (fa (an.getD j default) = false → res = false) := Lib.hid (fun h => HX.out (all_not (by rw [M3.out]; exact hlt2) h))
          have HV : Hid (fa (an.getD j default) = true → ∀ i, i < j + 1 → fa (an.getD i default) = true) := Lib.hid (fun h i hi => by
            by_cases e : i = j
            · rw [e]; exact h
            · exact Hoi.out i (by omega))
          have HC := Lib.hid (fun W (hW : Below w.heap.size w W) => HF1.out W hW j hlt2 (e0, e1) (g0.below (hW.mono hB)))
          have L5 : (an.getD j default).code.length ≤ 4000000 := R1n.out j hlt2
          clear g0
          subst hP
          unfold ndv at HC
          generalize fa (an.getD j default) = rn at *
          generalize an.getD j default = nd at *
          obtain ⟨cl, n2', n3, n4, n5⟩ := nd
          dsimp only at *
          generalize cl.length = l5 at *
          go_upto_region 7 with (fail)
          clear x3 x4 x5 x6 x7
          obtain ⟨b0_, hb_⟩ := boxes1 wr (.cells #[.slice e0 l5 e1, .int .i64 n2', .int .i64 n3, .int .i64 n4, .int .i64 n5] 60)
          generalize wr.alloc (.cells #[.slice e0 l5 e1, .int .i64 n2', .int .i64 n3, .int .i64 n4, .int .i64 n5] 60) = wx at *
          have Tx : Hid (∀ W, Below wx.heap.size wx W → W.cell? ⟨wr.heap.size, 0, none⟩ = some (.slice e0 l5 e1) ∧ W.cell? ⟨wr.heap.size, 1, none⟩ = some (.int .i64 n2') ∧ W.cell? ⟨wr.heap.size, 2, none⟩ = some (.int .i64 n3) ∧ W.cell? ⟨wr.heap.size, 3, none⟩ = some (.int .i64 n4) ∧ W.cell? ⟨wr.heap.size, 4, none⟩ = some (.int .i64 n5)) := Lib.hid (fun W hW => by have e := (hW.block _ (lt_blk b0_)).trans b0_; exact ⟨by rw [cell_blk e]; rfl, by rw [cell_blk e]; rfl, by rw [cell_blk e]; rfl, by rw [cell_blk e]; rfl, by rw [cell_blk e]; rfl⟩)
          have Bx0 := Lib.hid hb_
          clear hb_ b0_
          have Hx := Lib.hid (Hbi.out.trans (Bx0.out.mono Hbi.out.size))
          have Fx := Lib.hid (Hfi.out.trans (Bx0.out.mono Hfi.out.size))
          obtain ⟨z0, z1, z2, z3, z4⟩ := Tx.out wx (Below.refl _ _)
          obtain ⟨a0, a1, a2⟩ := Ta.out wx Fx.out
          go_wp2_with fail
          refine (HC.out _ Hx.out).mono ?_
          rintro e w3 ⟨rfl, hb3⟩
          clear z0 z1 z2 z3 z4 HC a0 a1 a2
          have Hy := Lib.hid (Hx.out.trans (hb3.mono Hx.out.size))
          have Fy := Lib.hid (Fx.out.trans (hb3.mono Fx.out.size))
          clear hb3
          cases rn
          · have HN := Lib.hid (HU.out rfl)
            go_wp2_with fail
            go_ret
            exact ⟨ret_bool HN.out.symm, Hy.out⟩
          · have HN := Lib.hid (HV.out (by trivial))
            go_wp2_with fail
            go_roundw
            case rel => exact ⟨j + 1, by omega, by go_num, Hy.out, Fy.out, HN.out⟩
            case measure => simp [intOf]; omega
        · obtain rfl : j = l3 := by omega
          have HN := Lib.hid (HY.out (all_of (by rw [M3.out]; exact Hoi.out)))
          go_wp2_with fail
          go_roundw
          case rel => exact ⟨k + 1, by omega, by go_num, Hbi.out, HN.out⟩
          case measure => simp [intOf]; omega
    · obtain rfl : k = n2 := by omega
      have HN : Hid (res = true) := Lib.hid (by rw [HR.out]; exact all_of (by rw [N2.out]; exact Ho.out))
      go_wp2_with fail
      go_ret
      exact ⟨ret_bool HN.out.symm, Hb.out⟩
set_option maxRecDepth 100000 in
set_option maxHeartbeats 4000000 in
theorem nodes_2 (g1 : Nat) (f : Bd → Nd → Bool) (c : Cd) (s : CdSmall c) (p p2 : Slc) (B : Nat) (w : World) (h2 : BdsAt w B p2 c.bodies) (hB : B ≤ w.heap.size)
    (hf : ∀ W, Below w.heap.size w W → ∀ k, k < c.bodies.length → ∀ j, j < (c.bodies.getD k default).nodes.length → ∀ p q r, VlsAt W B p (c.bodies.getD k default).locals → InsAt W B r ((c.bodies.getD k default).nodes.getD j default).code →
      Calls Try.prog 57 #[bdv (c.bodies.getD k default) p q, ndv ((c.bodies.getD k default).nodes.getD j default) r] W fun e w' => e = .returned (.bool (f (c.bodies.getD k default) ((c.bodies.getD k default).nodes.getD j default))) ∧ Below W.heap.size W w') :
    Calls Try.prog 54 #[cdv c p p2, .func (.func 57) #[] #[]] w fun e w' => e = .returned (.bool (allN f c.bodies)) ∧ Below w.heap.size w w' := by
  have HF := Lib.hid hf
  have H2 := Lib.hid h2
  have W1 := Lib.hid s.2.2
  have L1 := s.1; have L2 := s.2.1
  have HR : Hid (allN f c.bodies = c.bodies.all fun b => b.nodes.all fun n => f b n) := Lib.hid rfl
  clear h2 s hf
  unfold cdv
  generalize allN f c.bodies = res at *
  obtain ⟨sh, mt, bs⟩ := c
  obtain ⟨A, cp⟩ := p
  obtain ⟨A', cp'⟩ := p2
  dsimp only at *
  generalize sh.length = n1 at *
  generalize hn2 : bs.length = n2 at *
  have N2 := Lib.hid hn2
  clear hn2
  go_enter Try.func54, Try.ntmps54
  go_upto_region 1 with (fail)
  obtain ⟨b0_, hb_⟩ := boxes1 w (.cells #[.slice A n1 cp, .int .i64 mt, .slice A' n2 cp'] 25)
  generalize w.alloc (.cells #[.slice A n1 cp, .int .i64 mt, .slice A' n2 cp'] 25) = w0 at *
  have T0 : Hid (∀ W, Below w0.heap.size w0 W → W.cell? ⟨w.heap.size, 0, none⟩ = some (.slice A n1 cp) ∧ W.cell? ⟨w.heap.size, 1, none⟩ = some (.int .i64 mt) ∧ W.cell? ⟨w.heap.size, 2, none⟩ = some (.slice A' n2 cp')) := Lib.hid (fun W hW => by have e := (hW.block _ (lt_blk b0_)).trans b0_; exact ⟨by rw [cell_blk e]; rfl, by rw [cell_blk e]; rfl, by rw [cell_blk e]; rfl⟩)
  have HB := Lib.hid hb_
  clear hb_ b0_
  obtain ⟨-, -, c2⟩ := T0.out w0 (Below.refl _ _)
  go_wp2_with fail
  clear c2
  go_loopw [12] (fun iv wr => ∃ k : Nat, k ≤ n2 ∧ iv = .int .i64 k ∧ Below w.heap.size w wr ∧ ∀ i, i < k → (bs.getD i default).nodes.all (f (bs.getD i default)) = true) (fun iv _ => n2 - (intOf iv).toNat)
  case atStart => exact ⟨0, by omega, rfl, HB.out, fun i hi => by omega⟩
  case round =>
    obtain ⟨wo, rfl⟩ : ∃ x, x = wr := ⟨wr, rfl⟩
    obtain ⟨k, hk, rfl, hb, ho⟩ := hrel
    have Hb := Lib.hid hb
    have Ho := Lib.hid ho
    clear hb ho
    by_cases hlt : k < n2
    · obtain ⟨b, o, ⟨P0, pc0⟩, ⟨Q1, qc1⟩, hA', hb1, x0, x1, x2, hv, hn⟩ := BdsAt.cells H2.out (show k < bs.length by rw [N2.out]; exact hlt)
      dsimp only at hA' x0 x2
      subst hA'
      have y0 := (Hb.out.cell (p := ⟨b, _, none⟩) (Nat.lt_of_lt_of_le hb1 hB)).trans x0
      have y1 := (Hb.out.cell (p := ⟨b, _, none⟩) (Nat.lt_of_lt_of_le hb1 hB)).trans x1
      have y2 := (Hb.out.cell (p := ⟨b, _, none⟩) (Nat.lt_of_lt_of_le hb1 hB)).trans x2
      have R1 := Lib.hid (W1.out k hlt)
      have HI := Lib.hid hn
      have HX : Hid ((bs.getD k default).nodes.all (f (bs.getD k default)) = false → res = false) := Lib.hid (fun h => by rw [HR.out]; exact all_not (by rw [N2.out]; exact hlt) h)
      have HY : Hid ((bs.getD k default).nodes.all (f (bs.getD k default)) = true → ∀ i, i < k + 1 → (bs.getD i default).nodes.all (f (bs.getD i default)) = true) := Lib.hid (fun h i hi => by
        by_cases e : i = k
        · rw [e]; exact h
        · exact Ho.out i (by omega))
      have HF1 := Lib.hid (fun W (hW : Below w.heap.size w W) j hj r hr => HF.out W hW k hlt j hj (P0, pc0) (Q1, qc1) r (hv.below (hW.mono hB)) hr)
      clear x0 x1 x2 hv hn
      generalize bs.getD k default = a at *
      obtain ⟨al, ks, an⟩ := a
      have L4 : an.length ≤ 4000000 := R1.out.2.1
      have R1n : Hid (∀ j, j < an.length → (an.getD j default).code.length ≤ 4000000) := Lib.hid R1.out.2.2
      generalize hfa : f ⟨al, ks, an⟩ = fa at *
      clear hfa
      unfold bdv at HF1
      dsimp only at *
      generalize al.length = l1 at *
      generalize hl3 : an.length = l3 at *
      have M3 := Lib.hid hl3
      clear hl3 R1
      go_upto_region 4 with (fail)
      clear y0 y1 y2
      obtain ⟨b0_, hb_⟩ := boxes1 wo (.cells #[.slice P0 l1 pc0, .int .i64 ks, .slice Q1 l3 qc1] 57)
      generalize wo.alloc (.cells #[.slice P0 l1 pc0, .int .i64 ks, .slice Q1 l3 qc1] 57) = wa at *
      have Ta : Hid (∀ W, Below wa.heap.size wa W → W.cell? ⟨wo.heap.size, 0, none⟩ = some (.slice P0 l1 pc0) ∧ W.cell? ⟨wo.heap.size, 1, none⟩ = some (.int .i64 ks) ∧ W.cell? ⟨wo.heap.size, 2, none⟩ = some (.slice Q1 l3 qc1)) := Lib.hid (fun W hW => by have e := (hW.block _ (lt_blk b0_)).trans b0_; exact ⟨by rw [cell_blk e]; rfl, by rw [cell_blk e]; rfl, by rw [cell_blk e]; rfl⟩)
      have Ba0 := Lib.hid hb_
      clear hb_ b0_
      have Ha := Lib.hid (Hb.out.trans (Ba0.out.mono Hb.out.size))
      obtain ⟨a0, a1, a2⟩ := Ta.out wa (Below.refl _ _)
      go_wp2_with fail
      clear a0 a1 a2
      go_loopw [19] (fun iv wi => ∃ j : Nat, j ≤ l3 ∧ iv = .int .i64 j ∧ Below w.heap.size w wi ∧ Below wa.heap.size wa wi ∧ ∀ i, i < j → fa (an.getD i default) = true) (fun iv _ => l3 - (intOf iv).toNat)
      case atStart => exact ⟨0, by omega, rfl, Ha.out, Below.refl _ _, fun i hi => by omega⟩
      case round =>
        obtain ⟨j, hj, rfl, hbi, hfi, hoi⟩ := hrel
        have Hbi := Lib.hid hbi; have Hfi := Lib.hid hfi; have Hoi := Lib.hid hoi
        clear hbi hfi hoi
        by_cases hlt2 : j < l3
        · obtain ⟨b3, o3, ⟨e0, e1⟩, hP, hb3, x3, x4, x5, x6, x7, g0⟩ := NdsAt.cells HI.out (show j < an.length by rw [M3.out]; exact hlt2)
          dsimp only at hP x3
          have lb : b3 < w.heap.size := Nat.lt_of_lt_of_le hb3 hB
          have x3 := (Hbi.out.cell (p := ⟨b3, _, none⟩) lb).trans x3
          have x4 := (Hbi.out.cell (p := ⟨b3, _, none⟩) lb).trans x4
          have x5 := (Hbi.out.cell (p := ⟨b3, _, none⟩) lb).trans x5
          have x6 := (Hbi.out.cell (p := ⟨b3, _, none⟩) lb).trans x6
          have x7 := (Hbi.out.cell (p := ⟨b3, _, none⟩) lb).trans x7
          have HU : Hid (fa (an.getD j default) = false → res = false) := Lib.hid (fun h => HX.out (all_not (by rw [M3.out]; exact hlt2) h))
          have HV : Hid (fa (an.getD j default) = true → ∀ i, i < j + 1 → fa (an.getD i default) = true) := Lib.hid (fun h i hi => by
            by_cases e : i = j
            · rw [e]; exact h
            · exact Hoi.out i (by omega))
          have HC := Lib.hid (fun W (hW : Below w.heap.size w W) => HF1.out W hW j hlt2 (e0, e1) (g0.below (hW.mono hB)))
          have L5 : (an.getD j default).code.length ≤ 4000000 := R1n.out j hlt2
          clear g0
          subst hP
          unfold ndv at HC
          generalize fa (an.getD j default) = rn at *
          generalize an.getD j default = nd at *
          obtain ⟨cl, n2', n3, n4, n5⟩ := nd
          dsimp only at *
          generalize cl.length = l5 at *
          go_upto_region 7 with (fail)
          clear x3 x4 x5 x6 x7
          obtain ⟨b0_, hb_⟩ := boxes1 wr (.cells #[.slice e0 l5 e1, .int .i64 n2', .int .i64 n3, .int .i64 n4, .int .i64 n5] 60)
          generalize wr.alloc (.cells #[.slice e0 l5 e1, .int .i64 n2', .int .i64 n3, .int .i64 n4, .int .i64 n5] 60) = wx at *
          have Tx : Hid (∀ W, Below wx.heap.size wx W → W.cell? ⟨wr.heap.size, 0, none⟩ = some (.slice e0 l5 e1) ∧ W.cell? ⟨wr.heap.size, 1, none⟩ = some (.int .i64 n2') ∧ W.cell? ⟨wr.heap.size, 2, none⟩ = some (.int .i64 n3) ∧ W.cell? ⟨wr.heap.size, 3, none⟩ = some (.int .i64 n4) ∧ W.cell? ⟨wr.heap.size, 4, none⟩ = some (.int .i64 n5)) := Lib.hid (fun W hW => by have e := (hW.block _ (lt_blk b0_)).trans b0_; exact ⟨by rw [cell_blk e]; rfl, by rw [cell_blk e]; rfl, by rw [cell_blk e]; rfl, by rw [cell_blk e]; rfl, by rw [cell_blk e]; rfl⟩)
          have Bx0 := Lib.hid hb_
          clear hb_ b0_
          have Hx := Lib.hid (Hbi.out.trans (Bx0.out.mono Hbi.out.size))
          have Fx := Lib.hid (Hfi.out.trans (Bx0.out.mono Hfi.out.size))
          obtain ⟨z0, z1, z2, z3, z4⟩ := Tx.out wx (Below.refl _ _)
          obtain ⟨a0, a1, a2⟩ := Ta.out wx Fx.out
          go_wp2_with fail
          refine (HC.out _ Hx.out).mono ?_
          rintro e w3 ⟨rfl, hb3⟩
          clear z0 z1 z2 z3 z4 HC a0 a1 a2
          have Hy := Lib.hid (Hx.out.trans (hb3.mono Hx.out.size))
          have Fy := Lib.hid (Fx.out.trans (hb3.mono Fx.out.size))
          clear hb3
          cases rn
          · have HN := Lib.hid (HU.out rfl)
            go_wp2_with fail
            go_ret
            exact ⟨ret_bool HN.out.symm, Hy.out⟩
          · have HN := Lib.hid (HV.out (by trivial))
            go_wp2_with fail
            go_roundw
            case rel => exact ⟨j + 1, by omega, by go_num, Hy.out, Fy.out, HN.out⟩
            case measure => simp [intOf]; omega
        · obtain rfl : j = l3 := by omega
          have HN := Lib.hid (HY.out (all_of (by rw [M3.out]; exact Hoi.out)))
          go_wp2_with fail
          go_roundw
          case rel => exact ⟨k + 1, by omega, by go_num, Hbi.out, HN.out⟩
          case measure => simp [intOf]; omega
    · obtain rfl : k = n2 := by omega
      have HN : Hid (res = true) := Lib.hid (by rw [HR.out]; exact all_of (by rw [N2.out]; exact Ho.out))
      go_wp2_with fail
      go_ret
      exact ⟨ret_bool HN.out.symm, Hb.out⟩
/-- what is known of a code that fits. -/
theorem fit_bd {c : Cd} (h : cdFit c = true) {k : Nat} (hk : k < c.bodies.length) : bdFit c.shared.length c.mutexes (c.bodies.getD k default) = true := by
  unfold cdFit at h
  simp only [Bool.and_eq_true] at h
  exact all_at h.2.2.2 hk
theorem fit_nd {c : Cd} (h : cdFit c = true) {k : Nat} (hk : k < c.bodies.length) {j : Nat} (hj : j < (c.bodies.getD k default).nodes.length) :
    ((c.bodies.getD k default).nodes.getD j default).code.all (inOk c.shared.length (c.bodies.getD k default).locals.length) = true ∧ ndOk c.shared.length (c.bodies.getD k default).locals.length (c.bodies.getD k default).nodes.length c.mutexes ((c.bodies.getD k default).nodes.getD j default) = true := by
  have := fit_bd h hk
  unfold bdFit at this
  simp only [Bool.and_eq_true] at this
  have := all_at this.2.2.2 hj
  unfold ndFit at this
  simpa using this
set_option maxRecDepth 100000 in
set_option maxHeartbeats 1000000 in
theorem check1_any (g1 : Nat) (sh : List Vl) (bd : Bd) (nb : Nat) (mt : Int) (p q p2 q2 p3 : Slc) (n : Nd) (h1 : sh.length ≤ 4000000) (h2 : bd.locals.length ≤ 4000000) (h3 : n.code.length ≤ 4000000) (hin : n.code.all (inOk sh.length bd.locals.length) = true) (hok : ndOk sh.length bd.locals.length bd.nodes.length mt n = true) (B : Nat) (w : World)
    (hs : VlsAt w B p sh) (hl : VlsAt w B p2 bd.locals) (hc : InsAt w B p3 n.code) (hB : B ≤ w.heap.size) (hg : w.heap[g1]? = some (.cells #[.slice p.1 sh.length p.2, .int .i64 mt, .slice q.1 nb q.2] 25 (0, 0))) :
    Calls Try.prog 55 #[bdv bd p2 q2, ndv n p3, .pointer (some ⟨g1, 0, none⟩)] w fun e w' => e = .returned (.bool (ndTy sh bd n)) ∧ Below w.heap.size w w' := by
  have HT := Lib.hid (fun W (h : Below w.heap.size w W) => typed_any sh bd nb bd.nodes.length mt p q p2 q2 p3 n h1 h2 h3 hin hok B W (hs.below (h.mono hB)) (hl.below (h.mono hB)) (hc.below (h.mono hB)) (Nat.le_trans hB h.size))
  have HG := Lib.hid hg
  unfold cav at HT
  unfold bdv ndv at *
  clear hin hok hs hl hc hg
  generalize ndTy sh bd n = res at *
  obtain ⟨lo, st, nds⟩ := bd
  obtain ⟨cd, kind, arg, next, alt⟩ := n
  obtain ⟨A, cp⟩ := p; obtain ⟨A', cp'⟩ := q; obtain ⟨A2, cp2⟩ := p2; obtain ⟨A2', cp2'⟩ := q2; obtain ⟨A3, cp3⟩ := p3
  dsimp only at *
  generalize sh.length = ns at *
  generalize lo.length = nl at *
  generalize cd.length = nc at *
  generalize nds.length = nn at *
  go_enter Try.func55, Try.ntmps55
  go_upto_region 1 with (fail)
  obtain ⟨b0_, b1_, hb_⟩ := boxes2 w (.cells #[.slice A2 nl cp2, .int .i64 st, .slice A2' nn cp2'] 57) (.cells #[.slice A3 nc cp3, .int .i64 kind, .int .i64 arg, .int .i64 next, .int .i64 alt] 60)
  generalize (w.alloc (.cells #[.slice A2 nl cp2, .int .i64 st, .slice A2' nn cp2'] 57)).alloc (.cells #[.slice A3 nc cp3, .int .i64 kind, .int .i64 arg, .int .i64 next, .int .i64 alt] 60) = w0 at *
  have T1 : Hid (∀ W, Below w0.heap.size w0 W → W.cell? ⟨w.heap.size, 0, none⟩ = some (.slice A2 nl cp2) ∧ W.cell? ⟨w.heap.size, 1, none⟩ = some (.int .i64 st) ∧ W.cell? ⟨w.heap.size, 2, none⟩ = some (.slice A2' nn cp2')) := Lib.hid (fun W hW => by have e := (hW.block _ (lt_blk b0_)).trans b0_; exact ⟨by rw [cell_blk e]; rfl, by rw [cell_blk e]; rfl, by rw [cell_blk e]; rfl⟩)
  have T2 : Hid (∀ W, Below w0.heap.size w0 W → W.cell? ⟨w.heap.size + 1, 0, none⟩ = some (.slice A3 nc cp3) ∧ W.cell? ⟨w.heap.size + 1, 1, none⟩ = some (.int .i64 kind) ∧ W.cell? ⟨w.heap.size + 1, 2, none⟩ = some (.int .i64 arg) ∧ W.cell? ⟨w.heap.size + 1, 3, none⟩ = some (.int .i64 next) ∧ W.cell? ⟨w.heap.size + 1, 4, none⟩ = some (.int .i64 alt)) := Lib.hid (fun W hW => by have e := (hW.block _ (lt_blk b1_)).trans b1_; exact ⟨by rw [cell_blk e]; rfl, by rw [cell_blk e]; rfl, by rw [cell_blk e]; rfl, by rw [cell_blk e]; rfl, by rw [cell_blk e]; rfl⟩)
  have BA := Lib.hid hb_
  clear hb_ b0_ b1_
  have e1 := (BA.out.block _ (lt_blk HG.out)).trans HG.out
  have x0 : w0.cell? ⟨g1, 0, none⟩ = some (.slice A ns cp) := by rw [cell_blk e1]; rfl
  have x1 : w0.cell? ⟨g1, 1, none⟩ = some (.int .i64 mt) := by rw [cell_blk e1]; rfl
  have x2 : w0.cell? ⟨g1, 2, none⟩ = some (.slice A' nb cp') := by rw [cell_blk e1]; rfl
  clear e1
  obtain ⟨b0, b1, b2⟩ := T1.out w0 (Below.refl _ _)
  obtain ⟨c0, c1, c2, c3, c4⟩ := T2.out w0 (Below.refl _ _)
  go_wp2_with fail
  refine (HT.out _ BA.out).mono ?_
  rintro e w1 ⟨rfl, hb1⟩
  have HB := Lib.hid (BA.out.trans (hb1.mono BA.out.size))
  clear hb1 x0 x1 x2 b0 b1 b2 c0 c1 c2 c3 c4
  go_wp2_with fail
  go_ret
  exact ⟨rfl, HB.out⟩
set_option maxRecDepth 100000 in
set_option maxHeartbeats 1000000 in
theorem check2_any (bd : Bd) (p2 q2 p3 : Slc) (n : Nd) (h3 : n.code.length ≤ 4000000) (B : Nat) (w : World) (hc : InsAt w B p3 n.code) (hB : B ≤ w.heap.size) :
    Calls Try.prog 57 #[bdv bd p2 q2, ndv n p3] w fun e w' => e = .returned (.bool (decide (ndTo n ≤ 1))) ∧ Below w.heap.size w w' := by
  have HT := Lib.hid (fun W (h : Below w.heap.size w W) => touches_any n p3 h3 B W (hc.below (h.mono hB)) (Nat.le_trans hB h.size))
  have HN : Hid (decide (((ndTo n : Nat) : Int) ≤ 1) = decide (ndTo n ≤ 1)) := Lib.hid (by by_cases h : ndTo n ≤ 1 <;> simp [h] <;> omega)
  unfold bdv ndv at *
  clear hc
  generalize hd : decide (ndTo n ≤ 1) = d at *
  clear hd
  generalize ndTo n = res at *
  obtain ⟨lo, st, nds⟩ := bd
  obtain ⟨cd, kind, arg, next, alt⟩ := n
  obtain ⟨A2, cp2⟩ := p2; obtain ⟨A2', cp2'⟩ := q2; obtain ⟨A3, cp3⟩ := p3
  dsimp only at *
  generalize lo.length = nl at *
  generalize cd.length = nc at *
  generalize nds.length = nn at *
  go_enter Try.func57, Try.ntmps57
  go_upto_region 1 with (fail)
  obtain ⟨b0_, b1_, hb_⟩ := boxes2 w (.cells #[.slice A2 nl cp2, .int .i64 st, .slice A2' nn cp2'] 57) (.cells #[.slice A3 nc cp3, .int .i64 kind, .int .i64 arg, .int .i64 next, .int .i64 alt] 60)
  generalize (w.alloc (.cells #[.slice A2 nl cp2, .int .i64 st, .slice A2' nn cp2'] 57)).alloc (.cells #[.slice A3 nc cp3, .int .i64 kind, .int .i64 arg, .int .i64 next, .int .i64 alt] 60) = w0 at *
  have T1 : Hid (∀ W, Below w0.heap.size w0 W → W.cell? ⟨w.heap.size, 0, none⟩ = some (.slice A2 nl cp2) ∧ W.cell? ⟨w.heap.size, 1, none⟩ = some (.int .i64 st) ∧ W.cell? ⟨w.heap.size, 2, none⟩ = some (.slice A2' nn cp2')) := Lib.hid (fun W hW => by have e := (hW.block _ (lt_blk b0_)).trans b0_; exact ⟨by rw [cell_blk e]; rfl, by rw [cell_blk e]; rfl, by rw [cell_blk e]; rfl⟩)
  have T2 : Hid (∀ W, Below w0.heap.size w0 W → W.cell? ⟨w.heap.size + 1, 0, none⟩ = some (.slice A3 nc cp3) ∧ W.cell? ⟨w.heap.size + 1, 1, none⟩ = some (.int .i64 kind) ∧ W.cell? ⟨w.heap.size + 1, 2, none⟩ = some (.int .i64 arg) ∧ W.cell? ⟨w.heap.size + 1, 3, none⟩ = some (.int .i64 next) ∧ W.cell? ⟨w.heap.size + 1, 4, none⟩ = some (.int .i64 alt)) := Lib.hid (fun W hW => by have e := (hW.block _ (lt_blk b1_)).trans b1_; exact ⟨by rw [cell_blk e]; rfl, by rw [cell_blk e]; rfl, by rw [cell_blk e]; rfl, by rw [cell_blk e]; rfl, by rw [cell_blk e]; rfl⟩)
  have BA := Lib.hid hb_
  clear hb_ b0_ b1_
  obtain ⟨c0, c1, c2, c3, c4⟩ := T2.out w0 (Below.refl _ _)
  go_wp2_with fail
  refine (HT.out _ BA.out).mono ?_
  rintro e w1 ⟨rfl, hb1⟩
  have HB := Lib.hid (BA.out.trans (hb1.mono BA.out.size))
  have d1 := HN.out
  clear hb1 c0 c1 c2 c3 c4
  go_wp2_with fail
  go_ret
  exact ⟨ret_bool (by first | rfl | exact d1 | simpa using HN.out), HB.out⟩
set_option maxRecDepth 100000 in
set_option maxHeartbeats 2000000 in
theorem check_any (c : Cd) (s : CdSmall c) (hp : CdIn c) (p p2 : Slc) (B : Nat) (w : World) (h1 : VlsAt w B p c.shared) (h2 : BdsAt w B p2 c.bodies) (hB : B ≤ w.heap.size) :
    Calls Try.prog 21 #[cdv c p p2] w fun e w' => e = .returned (.int .i64 (chk c)) ∧ Below w.heap.size w w' := by
  have HL := Lib.hid (fun W (h : Below w.heap.size w W) => code_long c s p p2 B W (h2.below (h.mono hB)) (Nat.le_trans hB h.size))
  have HFi := Lib.hid (fun W (h : Below w.heap.size w W) => fits_any c s hp p p2 B W (h1.below (h.mono hB)) (h2.below (h.mono hB)) (Nat.le_trans hB h.size))
  have HN1 : Hid (cdFit c = true → ∀ g1 W, Below w.heap.size w W → W.heap[g1]? = some (.cells #[.slice p.1 c.shared.length p.2, .int .i64 c.mutexes, .slice p2.1 c.bodies.length p2.2] 25 (0, 0)) →
      Calls Try.prog 54 #[cdv c p p2, .func (.func 55) #[] #[.pointer (some ⟨g1, 0, none⟩)]] W fun e w' => e = .returned (.bool (allN (ndTy c.shared) c.bodies)) ∧ Below W.heap.size W w') := Lib.hid (fun hf g1 W hW hg =>
    nodes_1 g1 (ndTy c.shared) c s p p2 B W (h2.below (hW.mono hB)) (Nat.le_trans hB hW.size) (fun W2 hW2 k hk j hj pp q r hl hi =>
      check1_any g1 c.shared (c.bodies.getD k default) c.bodies.length c.mutexes p p2 pp q r _ s.1 (s.2.2 k hk).1 ((s.2.2 k hk).2.2 j hj) (fit_nd hf hk hj).1 (fit_nd hf hk hj).2 B W2
        ((h1.below (hW.mono hB)).below (hW2.mono (Nat.le_trans hB hW.size))) hl hi (Nat.le_trans hB (Nat.le_trans hW.size hW2.size)) ((hW2.block _ (lt_blk hg)).trans hg)))
  have HN2 : Hid (∀ W, Below w.heap.size w W →
      Calls Try.prog 54 #[cdv c p p2, .func (.func 57) #[] #[]] W fun e w' => e = .returned (.bool (allN (fun _ n => decide (ndTo n ≤ 1)) c.bodies)) ∧ Below W.heap.size W w') := Lib.hid (fun W hW =>
    nodes_2 0 (fun _ n => decide (ndTo n ≤ 1)) c s p p2 B W (h2.below (hW.mono hB)) (Nat.le_trans hB hW.size) (fun W2 hW2 k hk j hj pp q r hl hi =>
      check2_any (c.bodies.getD k default) pp q r _ ((s.2.2 k hk).2.2 j hj) B W2 hi (Nat.le_trans hB (Nat.le_trans hW.size hW2.size))))
  have HR : Hid (chk c = if cdLong c then 3 else if !cdFit c then 2 else if !allN (ndTy c.shared) c.bodies then 9 else if !allN (fun _ n => decide (ndTo n ≤ 1)) c.bodies then 190 else 0) := Lib.hid rfl
  clear h1 h2 hp s
  unfold cdv at *
  generalize chk c = res at *
  generalize cdLong c = q1 at *
  generalize cdFit c = q2 at *
  generalize allN (ndTy c.shared) c.bodies = q3 at *
  generalize allN (fun _ n => decide (ndTo n ≤ 1)) c.bodies = q4 at *
  obtain ⟨sh, mt, bs⟩ := c
  obtain ⟨A, cp⟩ := p
  obtain ⟨A', cp'⟩ := p2
  dsimp only at *
  generalize sh.length = n1 at *
  generalize bs.length = n2 at *
  go_enter Try.func21, Try.ntmps21
  go_upto_region 1 with (fail)
  obtain ⟨b0_, hb_⟩ := boxes1 w (.cells #[.slice A n1 cp, .int .i64 mt, .slice A' n2 cp'] 25)
  generalize w.alloc (.cells #[.slice A n1 cp, .int .i64 mt, .slice A' n2 cp'] 25) = w0 at *
  have T0b : Hid (∀ W, Below w0.heap.size w0 W → W.heap[w.heap.size]? = some (.cells #[.slice A n1 cp, .int .i64 mt, .slice A' n2 cp'] 25 (0, 0))) := Lib.hid (fun W hW => (hW.block _ (lt_blk b0_)).trans b0_)
  have T0 : Hid (∀ W, Below w0.heap.size w0 W → W.cell? ⟨w.heap.size, 0, none⟩ = some (.slice A n1 cp) ∧ W.cell? ⟨w.heap.size, 1, none⟩ = some (.int .i64 mt) ∧ W.cell? ⟨w.heap.size, 2, none⟩ = some (.slice A' n2 cp')) := Lib.hid (fun W hW => by have e := (hW.block _ (lt_blk b0_)).trans b0_; exact ⟨by rw [cell_blk e]; rfl, by rw [cell_blk e]; rfl, by rw [cell_blk e]; rfl⟩)
  have HB := Lib.hid hb_
  clear hb_ b0_
  obtain ⟨c0, c1, c2⟩ := T0.out w0 (Below.refl _ _)
  go_wp2_with fail
  refine (HL.out _ HB.out).mono ?_
  rintro e w1 ⟨rfl, hb1⟩
  clear c0 c1 c2
  obtain ⟨c0, c1, c2⟩ := T0.out w1 hb1
  have G1 := Lib.hid hb1
  have B1 := Lib.hid (HB.out.trans (hb1.mono HB.out.size))
  clear hb1 HL
  cases q1
  rotate_left
  · go_wp2_with fail
    go_ret
    exact ⟨ret_int HR.out.symm, B1.out⟩
  go_wp2_with fail
  refine (HFi.out _ B1.out).mono ?_
  rintro e w2 ⟨rfl, hb1⟩
  clear c0 c1 c2
  have G2 := Lib.hid (G1.out.trans (hb1.mono G1.out.size))
  obtain ⟨c0, c1, c2⟩ := T0.out w2 G2.out
  have B2 := Lib.hid (B1.out.trans (hb1.mono B1.out.size))
  clear hb1 HFi
  cases q2
  · go_wp2_with fail
    go_ret
    exact ⟨ret_int HR.out.symm, B2.out⟩
  go_wp2_with fail
  refine (HN1.out (by trivial) _ _ B2.out (T0b.out _ G2.out)).mono ?_
  rintro e w3 ⟨rfl, hb1⟩
  clear c0 c1 c2
  have G3 := Lib.hid (G2.out.trans (hb1.mono G2.out.size))
  obtain ⟨c0, c1, c2⟩ := T0.out w3 G3.out
  have B3 := Lib.hid (B2.out.trans (hb1.mono B2.out.size))
  clear hb1 HN1
  cases q3
  · go_wp2_with fail
    go_ret
    exact ⟨ret_int HR.out.symm, B3.out⟩
  go_wp2_with fail
  refine (HN2.out _ B3.out).mono ?_
  rintro e w4 ⟨rfl, hb1⟩
  clear c0 c1 c2
  have B4 := Lib.hid (B3.out.trans (hb1.mono B3.out.size))
  clear hb1 HN2
  cases q4
  all_goals
    go_wp2_with fail
    go_ret
    exact ⟨ret_int HR.out.symm, B4.out⟩
end Go.Proofs.Ytbmpjphemjponaa
end

section
set_option linter.unusedSimpArgs false
set_option linter.unusedVariables false
namespace Go.Proofs.Ytbmpjphemjponaa
open Go.RowKit

theorem RdS.keep {w w' : World} {g : Nat} {s : Rst} {L : Nat} (h : RdS w g s) (hb : Below L w w') (hL : g < L) : RdS w' g s := by
  obtain ⟨A, cap, h1, h2, h3⟩ := h
  exact ⟨A, cap, (hb.block g hL).trans h1, h2.below (hb.mono (Nat.le_of_lt hL)), h3⟩
theorem RK.later {w w2 w3 : World} {g : Nat} (h : RK g w w2) (hg : g ≤ w.heap.size) (hb : Below w.heap.size w2 w3) : RK g w w3 :=
  ⟨⟨Nat.le_trans h.1.1 hb.size, fun k cs e fz hne hk => (hb.block k (lt_blk hk)).trans (h.1.2 k cs e fz hne hk)⟩, h.2.trans (hb.mono hg)⟩
theorem below_set1 (w : World) (g i : Nat) (x : Value) : Below g w (w.setCell ⟨g, i, none⟩ x) := Below.setCell (p := ⟨g, i, none⟩) (Below.refl _ _) (Nat.le_refl _) x
theorem below_set2 (w : World) (g : Nat) (x y : Value) : Below g w ((w.setCell ⟨g, 0, none⟩ x).setCell ⟨g, 1, none⟩ y) := Below.setCell (p := ⟨g, 1, none⟩) (below_set1 w g 0 x) (Nat.le_refl _) y
theorem u8_back (n : Nat) (h : n < 256) : IntKind.u8.wrap (IntKind.i64.wrap (n : Int)) = n := by
  rw [wi64 _ (by omega) (by omega), wrap_u8_mod]; omega
theorem u64_back (n : Nat) (h : n < 18446744073709551616) : IntKind.u64.wrap (IntKind.i64.wrap (n : Int)) = n := by
  rw [IntKind.wrap_i64, IntKind.wrap_u64]; omega
set_option maxRecDepth 100000 in
set_option maxHeartbeats 1000000 in
theorem value_rd (s : Rst) (g : Nat) (w : World) (hs : RdS w g s) :
    Calls Try.prog 69 #[.pointer (some ⟨g, 0, none⟩)] w fun e w' => e = .returned (.agg #[.int .u8 (rdV s).1.t, .int .u64 (rdV s).1.b]) ∧ RdS w' g (rdV s).2 ∧ RK g w w' := by
  have HS := Lib.hid hs
  have hg := hs.lt
  have HV : Hid (rdV s = (⟨(rdN 1 s).1, (rdN 8 (rdN 1 s).2).1⟩, (rdN 8 (rdN 1 s).2).2)) := Lib.hid rfl
  have l1 := rdN_lt 1 s; have l8 := rdN_lt 8 (rdN 1 s).2
  have l8 : (rdN 8 (rdN 1 s).2).1 < 18446744073709551616 := Nat.lt_of_lt_of_le l8 (by decide)
  have n1 := fun W h => number_rd 1 (by omega) (by omega) s g W h
  have n8 := fun W h => number_rd 8 (by omega) (by omega) (rdN 1 s).2 g W h
  have N1 := Lib.hid n1; have N8 := Lib.hid n8
  clear hs n1 n8
  generalize rdN 8 (rdN 1 s).2 = r8 at *
  generalize rdN 1 s = r1 at *
  obtain ⟨t, s1⟩ := r1
  obtain ⟨b, s2⟩ := r8
  dsimp only at *
  rw [HV.out]
  have e1 := u8_back t (by omega)
  have e8 := u64_back b (by omega)
  clear HV l1 l8
  go_enter Try.func69, Try.ntmps69
  go_upto_region 1 with (fail)
  obtain ⟨b0_, hb_⟩ := boxes1 w (.cells #[.int .u8 0, .int .u64 0] 51)
  generalize w.alloc (.cells #[.int .u8 0, .int .u64 0] 51) = w0 at *
  have T0b : Hid (∀ W, Below w0.heap.size w0 W → W.heap[w.heap.size]? = some (.cells #[.int .u8 0, .int .u64 0] 51 (0, 0))) := Lib.hid (fun W hW => (hW.block _ (lt_blk b0_)).trans b0_)
  have T0 : Hid (∀ W, Below w0.heap.size w0 W → W.cell? ⟨w.heap.size, 0, none⟩ = some (.int .u8 0) ∧ W.cell? ⟨w.heap.size, 1, none⟩ = some (.int .u64 0)) := Lib.hid (fun W hW => by have e := (hW.block _ (lt_blk b0_)).trans b0_; exact ⟨by rw [cell_blk e]; rfl, by rw [cell_blk e]; rfl⟩)
  have BA := Lib.hid hb_
  clear hb_ b0_
  go_wp2_with fail
  refine (N1.out _ (HS.out.below BA.out)).mono ?_
  rintro e w1 ⟨rfl, hr1, hk1⟩
  have R1 := Lib.hid hr1; have K1 := Lib.hid ((RK.of_below BA.out (Nat.le_of_lt hg)).trans hk1)
  have X1 := Lib.hid (hk1.blk (by decide) (T0b.out w0 (Below.refl _ _)))
  clear hr1 hk1
  go_wp2_with fail
  refine (N8.out _ R1.out).mono ?_
  rintro e w2 ⟨rfl, hr2, hk2⟩
  have R2 := Lib.hid hr2; have K2 := Lib.hid (K1.out.trans hk2)
  have X2 := Lib.hid (hk2.blk (by decide) X1.out)
  clear hr2 hk2
  have c0 : w2.cell? ⟨w.heap.size, 0, none⟩ = some (.int .u8 0) := by rw [cell_blk X2.out]; rfl
  have c1 : w2.cell? ⟨w.heap.size, 1, none⟩ = some (.int .u64 0) := by rw [cell_blk X2.out]; rfl
  have fz : ∀ j, w2.frozen? ⟨w.heap.size, j, none⟩ = false := fun j => free_blk X2.out j
  go_wp2_with fail
  have G : Below w.heap.size w2 ((w2.setCell ⟨w.heap.size, 0, none⟩ (.int .u8 t)).setCell ⟨w.heap.size, 1, none⟩ (.int .u64 b)) := below_set2 _ _ _ _
  exact bodyPost_ret (v := .agg #[.int .u8 t, .int .u64 b]) (by simp [results, Try.results69, go_sem, c0, c1]) rfl ⟨rfl, R2.out.keep G hg, K2.out.later (Nat.le_of_lt hg) G⟩
/-- what is read: an own row. -/
def GotVs (L g : Nat) (l : List Vl) (s : Rst) (w : World) (e : Ending) (w' : World) : Prop := ∃ p : Slc, e = .returned (.slice p.1 l.length p.2) ∧ OwV w' L p l ∧ RdS w' g s ∧ RK g w w'
theorem OwV.rk {w w' : World} {L g : Nat} {p : Slc} {l : List Vl} (h : OwV w L p l) (hk : RK g w w') : OwV w' L p l := h.spares hk.1 (by decide)
set_option maxRecDepth 100000 in
set_option maxHeartbeats 2000000 in
theorem values_rd (s : Rst) (g : Nat) (w : World) (hs : RdS w g s) :
    Calls Try.prog 42 #[.pointer (some ⟨g, 0, none⟩)] w (GotVs w.heap.size g (rdVs s).1 (rdVs s).2 w) := by
  have HS := Lib.hid hs
  have hg := hs.lt
  have HV : Hid (rdVs s = rdL rdV (rdN 1 s).1 (rdN 1 s).2 []) := Lib.hid rfl
  have l1 := rdN_lt 1 s
  have n1 := fun W h => number_rd 1 (by omega) (by omega) s g W h
  have N1 := Lib.hid n1
  have HVL := Lib.hid (fun W s h => value_rd s g W h)
  clear hs n1
  generalize rdN 1 s = r1 at *
  generalize rdVs s = total at *
  obtain ⟨n, s1⟩ := r1
  dsimp only at *
  have wn : IntKind.i64.wrap (n : Int) = n := wi64 _ (by omega) (by omega)
  go_enter Try.func42, Try.ntmps42
  go_wp2_with fail
  refine (N1.out _ HS.out).mono ?_
  rintro e w1 ⟨rfl, hr1, hk1⟩
  have R1 := Lib.hid hr1; have K1 := Lib.hid hk1
  clear hr1 hk1
  go_wp2_with fail
  clear wn
  go_loopw [3, 4] (fun u iv wr => ∃ (k : Nat) (s2 : Rst) (acc : List Vl) (p : Slc), u = .slice p.1 acc.length p.2 ∧ iv = .int .i64 k ∧ k ≤ 255 ∧ acc.length ≤ 255 - k ∧ total = rdL rdV k s2 acc ∧ OwV wr w.heap.size p acc ∧ RdS wr g s2 ∧ RK g w wr) (fun _ iv _ => (intOf iv).toNat)
  case atStart => exact ⟨n, s1, [], (none, 0), rfl, by first | rfl | go_num, by omega, by simp, HV.out, ⟨rfl, .inl ⟨rfl, rfl⟩⟩, R1.out, K1.out⟩
  case round =>
    obtain ⟨k, s2, acc, p, rfl, rfl, hk, hac, ht, ho, hr, hkk⟩ := hrel
    have HT := Lib.hid ht; have HO := Lib.hid ho; have HR := Lib.hid hr; have HK := Lib.hid hkk
    have hsz := HK.out.1.1
    clear ht ho hr hkk
    obtain ⟨A, cp⟩ := p
    dsimp only at *
    by_cases h0 : k = 0
    · subst h0
      have d : decide ((0 : Int) < ((0 : Nat) : Int)) = false := rfl
      go_wp2_with fail
      go_ret
      exact ⟨(A, cp), by rw [HT.out]; rfl, by rw [HT.out]; exact HO.out, by rw [HT.out]; exact HR.out, HK.out⟩
    obtain ⟨k', rfl⟩ : ∃ k', k = k' + 1 := ⟨k - 1, by omega⟩
    have d : decide ((0 : Int) < ((k' + 1 : Nat) : Int)) = true := decide_eq_true (by omega)
    obtain ⟨Ar, capr, x1, -⟩ := HR.out
    have c1 : wr.cell? ⟨g, 1, none⟩ = some (.bool s2.2) := by rw [cell_blk x1]; rfl
    clear x1
    have HT1 : Hid (total = if s2.2 = true then (acc, s2) else rdL rdV k' (rdV s2).2 (acc ++ [(rdV s2).1])) := Lib.hid HT.out
    generalize hb : s2.2 = bad at *
    have HB := Lib.hid hb
    clear hb
    cases bad
    rotate_left
    · have HE : Hid (total = (acc, s2)) := Lib.hid (by rw [HT1.out]; rfl)
      go_wp2_with fail
      go_ret
      exact ⟨(A, cp), by rw [HE.out]; rfl, by rw [HE.out]; exact HO.out, by rw [HE.out]; exact HR.out, HK.out⟩
    have HE : Hid (total = rdL rdV k' (rdV s2).2 (acc ++ [(rdV s2).1])) := Lib.hid (by rw [HT1.out]; rfl)
    clear HT HT1
    have HVk := Lib.hid (HVL.out wr s2 HR.out)
    generalize rdV s2 = rv at *
    obtain ⟨⟨t, bt⟩, s3⟩ := rv
    dsimp only at *
    go_wp2_with fail
    refine HVk.out.mono ?_
    rintro e w3 ⟨rfl, hr3, hk3⟩
    have R3 := Lib.hid hr3; have K3 := Lib.hid (HK.out.trans hk3); have O3 := Lib.hid (HO.out.rk hk3)
    have hB3 : w.heap.size ≤ w3.heap.size := K3.out.1.1
    clear hr3 hk3 c1 d
    go_wp2_with (at_builtin; refine wpList_append_oneS ESV [.int .u8 t, .int .u64 bt] _ rfl rfl (.tmp 18) (.tmp 21) rfl w.heap.size (by intro u hu; simp at hu; rcases hu with rfl | rfl <;> rfl) 1 rfl (.slice A acc.length cp) acc.length (acc.flatMap vc) rfl O3.out rfl (by omega) (by omega) w3 hB3 (Below.refl _ _) ?_; intro v' w' h2 h3 h4 h5; clear h5 h4; have h6 := own_sv h2; obtain ⟨p', rfl, h6⟩ := h6; unfold sv at h6 ⊢; have O4 := Lib.hid h6; have B4 := Lib.hid h3; clear h6 h2 h3)
    go_roundw
    case rel => exact ⟨k', s3, acc ++ [⟨t, bt⟩], p', by rw [List.length_append]; rfl, by go_num, by omega, by rw [List.length_append, List.length_singleton]; omega, HE.out, by unfold OwV sv; rw [List.length_append, List.flatMap_append]; exact O4.out, R3.out.keep B4.out hg, K3.out.later (Nat.le_of_lt hg) B4.out⟩
    case measure => simp [intOf]
end Go.Proofs.Ytbmpjphemjponaa
end

section
set_option linter.unusedSimpArgs false
set_option linter.unusedVariables false
namespace Go.Proofs.Ytbmpjphemjponaa
open Go.RowKit

theorem two_set {w : World} {g : Nat} {cs : Array Value} {T : TypeId} (h : w.heap[g]? = some (.cells cs T (0, 0))) (i j : Nat) (x y : Value) : ((w.setCell ⟨g, i, none⟩ x).setCell ⟨g, j, none⟩ y).heap[g]? = some (.cells ((cs.setIfInBounds i x).setIfInBounds j y) T (0, 0)) ∧ w.grownBy ((w.setCell ⟨g, i, none⟩ x).setCell ⟨g, j, none⟩ y) (some g) ∧ Below g w ((w.setCell ⟨g, i, none⟩ x).setCell ⟨g, j, none⟩ y) :=
  ⟨set_blk (set_blk h i x) j y, grown_setCell (grown_setCell (World.grownBy.refl w (some g)) (p := ⟨g, i, none⟩) rfl x) (p := ⟨g, j, none⟩) rfl y, Below.setCell (p := ⟨g, j, none⟩) (below_set1 w g i x) (Nat.le_refl _) y⟩
theorem spares_row' {w : World} {g : Nat} {T : TypeId} {old cs : Array Value} (h : w.heap[g]? = some (.cells old T (0, 0))) : Spares T w (w.setRow g cs) :=
  Spares.grown ⟨rfl, rfl, rfl, by simp, fun k _ hne => setRow_other w g k cs (fun e => hne (by rw [e]))⟩ fun k hk => by injection hk with hk; subst hk; exact ⟨old, (0, 0), h⟩
theorem rdI_lit {s : Rst} (h : (rdN 1 s).1 = 1) : rdI s = (⟨(rdN 1 s).1, (rdN 1 (rdN 1 s).2).1, (rdV (rdN 1 (rdN 1 s).2).2).1⟩, (rdV (rdN 1 (rdN 1 s).2).2).2) := if_pos h
theorem rdI_not {s : Rst} (h : (rdN 1 s).1 ≠ 1) : rdI s = (⟨(rdN 1 s).1, (rdN 1 (rdN 1 s).2).1, Vl.zero⟩, (rdN 1 (rdN 1 s).2).2) := if_neg h
theorem own_ne {w : World} {base n sz : Nat} {e : TypeId} {v : Value} {xs : List Value} (h : w.ownsRow base e sz v n xs) {g : Nat} (hg : w.heap.size ≤ g) : v.ownBlock ≠ some g := by
  intro e; have := (h.lt g e).2; omega
theorem OwI.kept {w w' : World} {L g : Nat} {p : Slc} {l : List Ins} (h : OwI w L p l) (hg : w.grownBy w' (some g)) (hne : (sv p l.length).ownBlock ≠ some g) : OwI w' L p l := World.ownsRow.kept h hg (.inr hne)
theorem OwI.rk {w w' : World} {L g : Nat} {p : Slc} {l : List Ins} (h : OwI w L p l) (hk : RK g w w') : OwI w' L p l := h.spares hk.1 (by decide)
/-- what is read: a node by value. -/
def GotNd (L g : Nat) (x : Nd) (s : Rst) (w : World) (e : Ending) (w' : World) : Prop := ∃ p : Slc, e = .returned (ndv x p) ∧ OwI w' L p x.code ∧ RdS w' g s ∧ RK g w w'
set_option maxRecDepth 100000 in
set_option maxHeartbeats 4000000 in
theorem node_rd (s : Rst) (g : Nat) (w : World) (hs : RdS w g s) :
    Calls Try.prog 44 #[.pointer (some ⟨g, 0, none⟩)] w (GotNd w.heap.size g (rdNd s).1 (rdNd s).2 w) := by
  have HS := Lib.hid hs
  have hg := hs.lt
  have HN := Lib.hid (fun k (h1 : 1 ≤ k) (h8 : k ≤ 8) W s h => number_rd k h1 h8 s g W h)
  have HVL := Lib.hid (fun W s h => value_rd s g W h)
  have l2 := rdN_lt 2 s
  generalize hc : rdL rdI (rdN 2 s).1 (rdN 2 s).2 [] = total
  have HV : Hid (rdNd s = (⟨total.1, (rdN 1 total.2).1, (rdN 1 (rdN 1 total.2).2).1, (rdN 2 (rdN 1 (rdN 1 total.2).2).2).1, (rdN 2 (rdN 2 (rdN 1 (rdN 1 total.2).2).2).2).1⟩, (rdN 2 (rdN 2 (rdN 1 (rdN 1 total.2).2).2).2).2)) := Lib.hid (by rw [← hc]; rfl)
  have HC := Lib.hid hc
  have H2 := Lib.hid (HN.out 2 (by omega) (by omega) w s hs)
  have N0 := Lib.hid (fun W h => HN.out 2 (by omega) (by omega) W s h)
  clear hs hc H2
  generalize rdNd s = res at *
  generalize rdN 2 s = r2 at *
  obtain ⟨n, s1⟩ := r2
  dsimp only at *
  have wn : IntKind.i64.wrap (n : Int) = n := wi64 _ (by omega) (by omega)
  go_enter Try.func44, Try.ntmps44
  go_upto_region 2 with (fail)
  obtain ⟨b0_, b1_, hb_⟩ := boxes2 w (.cells #[.slice none 0 0, .int .i64 0, .int .i64 0, .int .i64 0, .int .i64 0] 60) (.cells #[.slice none 0 0, .int .i64 0, .int .i64 0, .int .i64 0, .int .i64 0] 60)
  generalize (w.alloc (.cells #[.slice none 0 0, .int .i64 0, .int .i64 0, .int .i64 0, .int .i64 0] 60)).alloc (.cells #[.slice none 0 0, .int .i64 0, .int .i64 0, .int .i64 0, .int .i64 0] 60) = w0 at *
  have T2b : Hid (∀ W, Below w0.heap.size w0 W → W.heap[w.heap.size]? = some (.cells #[.slice none 0 0, .int .i64 0, .int .i64 0, .int .i64 0, .int .i64 0] 60 (0, 0))) := Lib.hid (fun W hW => (hW.block _ (lt_blk b0_)).trans b0_)
  have T2 : Hid (∀ W, Below w0.heap.size w0 W → W.cell? ⟨w.heap.size, 0, none⟩ = some (.slice none 0 0) ∧ W.cell? ⟨w.heap.size, 1, none⟩ = some (.int .i64 0) ∧ W.cell? ⟨w.heap.size, 2, none⟩ = some (.int .i64 0) ∧ W.cell? ⟨w.heap.size, 3, none⟩ = some (.int .i64 0) ∧ W.cell? ⟨w.heap.size, 4, none⟩ = some (.int .i64 0)) := Lib.hid (fun W hW => by have e := (hW.block _ (lt_blk b0_)).trans b0_; exact ⟨by rw [cell_blk e]; rfl, by rw [cell_blk e]; rfl, by rw [cell_blk e]; rfl, by rw [cell_blk e]; rfl, by rw [cell_blk e]; rfl⟩)
  have T3b : Hid (∀ W, Below w0.heap.size w0 W → W.heap[w.heap.size + 1]? = some (.cells #[.slice none 0 0, .int .i64 0, .int .i64 0, .int .i64 0, .int .i64 0] 60 (0, 0))) := Lib.hid (fun W hW => (hW.block _ (lt_blk b1_)).trans b1_)
  have T3 : Hid (∀ W, Below w0.heap.size w0 W → W.cell? ⟨w.heap.size + 1, 0, none⟩ = some (.slice none 0 0) ∧ W.cell? ⟨w.heap.size + 1, 1, none⟩ = some (.int .i64 0) ∧ W.cell? ⟨w.heap.size + 1, 2, none⟩ = some (.int .i64 0) ∧ W.cell? ⟨w.heap.size + 1, 3, none⟩ = some (.int .i64 0) ∧ W.cell? ⟨w.heap.size + 1, 4, none⟩ = some (.int .i64 0)) := Lib.hid (fun W hW => by have e := (hW.block _ (lt_blk b1_)).trans b1_; exact ⟨by rw [cell_blk e]; rfl, by rw [cell_blk e]; rfl, by rw [cell_blk e]; rfl, by rw [cell_blk e]; rfl, by rw [cell_blk e]; rfl⟩)
  have BA := Lib.hid hb_
  clear hb_ b0_ b1_
  go_wp2_with fail
  refine (N0.out w0 (HS.out.below BA.out)).mono ?_
  rintro e w1 ⟨rfl, hr1, hk1⟩
  have R1 := Lib.hid hr1; have K1 := Lib.hid ((RK.of_below BA.out (Nat.le_of_lt hg)).trans hk1)
  have X2 := Lib.hid (hk1.blk (by decide) (T2b.out w0 (Below.refl _ _))); have X3 := Lib.hid (hk1.blk (by decide) (T3b.out w0 (Below.refl _ _)))
  clear hr1 hk1 N0 T2 T2b T3 T3b BA
  go_wp2_with fail
  clear wn
  go_loopw [4] (fun iv wr => ∃ (k : Nat) (s2 : Rst) (acc : List Ins) (p : Slc), iv = .int .i64 k ∧ k ≤ 65535 ∧ acc.length ≤ 65535 - k ∧ total = rdL rdI k s2 acc ∧ wr.heap[w.heap.size + 1]? = some (.cells #[.slice p.1 acc.length p.2, .int .i64 0, .int .i64 0, .int .i64 0, .int .i64 0] 60 (0, 0)) ∧ wr.heap[w.heap.size]? = some (.cells #[.slice none 0 0, .int .i64 0, .int .i64 0, .int .i64 0, .int .i64 0] 60 (0, 0)) ∧ OwI wr w.heap.size p acc ∧ RdS wr g s2 ∧ RK g w wr) (fun iv _ => (intOf iv).toNat)
  case atStart => exact ⟨n, s1, [], (none, 0), by first | rfl | go_num, by omega, by simp, HC.out.symm, X3.out, X2.out, ⟨rfl, .inl ⟨rfl, rfl⟩⟩, R1.out, K1.out⟩
  case round =>
    obtain ⟨k, s2, acc, p, rfl, hk, hac, ht, hx3, hx2, ho, hr, hkk⟩ := hrel
    have HT := Lib.hid ht; have HO := Lib.hid ho; have HR := Lib.hid hr; have HK := Lib.hid hkk; have X3 := Lib.hid hx3; have X2 := Lib.hid hx2
    have hsz := HK.out.1.1
    clear ht ho hr hkk hx3 hx2
    obtain ⟨A, cp⟩ := p
    dsimp only at *
    by_cases h0 : k = 0
    · subst h0
      have d : decide ((0 : Int) < ((0 : Nat) : Int)) = false := rfl
      have HE : Hid (total = (acc, s2)) := Lib.hid HT.out
      clear HT
      have HV2 : Hid (res = (⟨acc, (rdN 1 s2).1, (rdN 1 (rdN 1 s2).2).1, (rdN 2 (rdN 1 (rdN 1 s2).2).2).1, (rdN 2 (rdN 2 (rdN 1 (rdN 1 s2).2).2).2).1⟩, (rdN 2 (rdN 2 (rdN 1 (rdN 1 s2).2).2).2).2)) := Lib.hid (by rw [HV.out, HE.out])
      clear HV HE HC
      have N1 := Lib.hid (fun W h => HN.out 1 (by omega) (by omega) W s2 h); have b1 := rdN_lt 1 s2
      generalize rdN 1 s2 = q1 at *
      obtain ⟨kd, s3⟩ := q1
      dsimp only at *
      have N2 := Lib.hid (fun W h => HN.out 1 (by omega) (by omega) W s3 h); have b2 := rdN_lt 1 s3
      generalize rdN 1 s3 = q2 at *
      obtain ⟨ag, s4⟩ := q2
      dsimp only at *
      have N3 := Lib.hid (fun W h => HN.out 2 (by omega) (by omega) W s4 h); have b3 := rdN_lt 2 s4
      generalize rdN 2 s4 = q3 at *
      obtain ⟨nx, s5⟩ := q3
      dsimp only at *
      have N4 := Lib.hid (fun W h => HN.out 2 (by omega) (by omega) W s5 h); have b4 := rdN_lt 2 s5
      generalize rdN 2 s5 = q4 at *
      obtain ⟨al, s6⟩ := q4
      dsimp only at *
      have w1_ := wi64 kd (by omega) (by omega); have w2_ := wi64 ag (by omega) (by omega); have w3_ := wi64 nx (by omega) (by omega); have w4_ := wi64 al (by omega) (by omega)
      clear b1 b2 b3 b4
      go_wp2_with fail
      refine (N1.out _ HR.out).mono ?_
      rintro e v1 ⟨rfl, hr1, hk1⟩
      have R1 := Lib.hid hr1; have K1 := Lib.hid (HK.out.trans hk1); have Y2 := Lib.hid (hk1.blk (by decide) X2.out); have Y3 := Lib.hid (hk1.blk (by decide) X3.out); have O1 := Lib.hid (HO.out.rk hk1)
      clear hr1 hk1 N1
      go_wp2_with fail
      refine (N2.out _ R1.out).mono ?_
      rintro e v2 ⟨rfl, hr1, hk1⟩
      have R2 := Lib.hid hr1; have K2 := Lib.hid (K1.out.trans hk1); have Y2 := Lib.hid (hk1.blk (by decide) Y2.out); have Y3 := Lib.hid (hk1.blk (by decide) Y3.out); have O2 := Lib.hid (O1.out.rk hk1)
      clear hr1 hk1 N2
      have u1 : v2.cell? ⟨w.heap.size + 1, 1, none⟩ = some (.int .i64 0) := by rw [cell_blk Y3.out]; rfl
      have u2 : v2.cell? ⟨w.heap.size + 1, 2, none⟩ = some (.int .i64 0) := by rw [cell_blk Y3.out]; rfl
      have fz : ∀ j, v2.frozen? ⟨w.heap.size + 1, j, none⟩ = false := fun j => free_blk Y3.out j
      go_upto_region 10 with (fail)
      clear u1 u2 fz
      obtain ⟨d1, d2, d3⟩ := two_set Y3.out 1 2 (.int .i64 kd) (.int .i64 ag)
      generalize (v2.setCell ⟨w.heap.size + 1, 1, none⟩ (.int .i64 kd)).setCell ⟨w.heap.size + 1, 2, none⟩ (.int .i64 ag) = v3 at *
      have Z3 : Hid (v3.heap[w.heap.size + 1]? = some (.cells #[.slice A acc.length cp, .int .i64 kd, .int .i64 ag, .int .i64 0, .int .i64 0] 60 (0, 0))) := Lib.hid d1
      have Z2 := Lib.hid ((d3.block _ (by omega)).trans Y2.out)
      have O3 := Lib.hid (O2.out.spares (Spares.own_blk d2 Y3.out) (by decide))
      have R3 := Lib.hid (R2.out.keep d3 (by omega)); have K3 := Lib.hid (K2.out.later (Nat.le_of_lt hg) (d3.mono (by omega)))
      clear d1 d2 d3
      go_wp2_with fail
      refine (N3.out _ R3.out).mono ?_
      rintro e v4 ⟨rfl, hr1, hk1⟩
      have R4 := Lib.hid hr1; have K4 := Lib.hid (K3.out.trans hk1); have Y2 := Lib.hid (hk1.blk (by decide) Z2.out); have Y3 := Lib.hid (hk1.blk (by decide) Z3.out); have O4 := Lib.hid (O3.out.rk hk1)
      clear hr1 hk1 N3
      go_wp2_with fail
      refine (N4.out _ R4.out).mono ?_
      rintro e v5 ⟨rfl, hr1, hk1⟩
      have R5 := Lib.hid hr1; have K5 := Lib.hid (K4.out.trans hk1); have Y2 := Lib.hid (hk1.blk (by decide) Y2.out); have Y3 := Lib.hid (hk1.blk (by decide) Y3.out); have O5 := Lib.hid (O4.out.rk hk1)
      clear hr1 hk1 N4
      have u1 : v5.cell? ⟨w.heap.size + 1, 3, none⟩ = some (.int .i64 0) := by rw [cell_blk Y3.out]; rfl
      have u2 : v5.cell? ⟨w.heap.size + 1, 4, none⟩ = some (.int .i64 0) := by rw [cell_blk Y3.out]; rfl
      have fz : ∀ j, v5.frozen? ⟨w.heap.size + 1, j, none⟩ = false := fun j => free_blk Y3.out j
      go_upto_region 11 with (fail)
      clear u1 u2 fz
      obtain ⟨d1, d2, d3⟩ := two_set Y3.out 3 4 (.int .i64 nx) (.int .i64 al)
      generalize (v5.setCell ⟨w.heap.size + 1, 3, none⟩ (.int .i64 nx)).setCell ⟨w.heap.size + 1, 4, none⟩ (.int .i64 al) = v6 at *
      have Z3 : Hid (v6.heap[w.heap.size + 1]? = some (.cells #[.slice A acc.length cp, .int .i64 kd, .int .i64 ag, .int .i64 nx, .int .i64 al] 60 (0, 0))) := Lib.hid d1
      have Z2 := Lib.hid ((d3.block _ (by omega)).trans Y2.out)
      have O6 := Lib.hid (O5.out.spares (Spares.own_blk d2 Y3.out) (by decide))
      have R6 := Lib.hid (R5.out.keep d3 (by omega)); have K6 := Lib.hid (K5.out.later (Nat.le_of_lt hg) (d3.mono (by omega)))
      clear d1 d2 d3
      have m0 : v6.cell? ⟨w.heap.size + 1, 0, none⟩ = some (.slice A acc.length cp) := by rw [cell_blk Z3.out]; rfl
      have m1 : v6.cell? ⟨w.heap.size + 1, 1, none⟩ = some (.int .i64 kd) := by rw [cell_blk Z3.out]; rfl
      have m2 : v6.cell? ⟨w.heap.size + 1, 2, none⟩ = some (.int .i64 ag) := by rw [cell_blk Z3.out]; rfl
      have m3 : v6.cell? ⟨w.heap.size + 1, 3, none⟩ = some (.int .i64 nx) := by rw [cell_blk Z3.out]; rfl
      have m4 : v6.cell? ⟨w.heap.size + 1, 4, none⟩ = some (.int .i64 al) := by rw [cell_blk Z3.out]; rfl
      go_wp2_with (refine wpList_store_row (o := ⟨none, .store 60 (.tmp 2) (.tmp 49), _, _, _, _⟩) rfl _ _ _ rfl w.heap.size #[.slice A acc.length cp, .int .i64 kd, .int .i64 ag, .int .i64 nx, .int .i64 al] rfl rfl _ _ Z2.out (by kernel_rfl) rfl (by kernel_rfl) ?_)
      refine bodyPost_ret (results_cell_row rfl _ _ w.heap.size 60 #[.slice A acc.length cp, .int .i64 kd, .int .i64 ag, .int .i64 nx, .int .i64 al] (0, 0) _ rfl (setRow_heap _ _ _ #[.slice A acc.length cp, .int .i64 kd, .int .i64 ag, .int .i64 nx, .int .i64 al] _ (0, 0) Z2.out) Try.underlying60 rfl (by kernel_rfl)) rfl ?_
      have Bf := below_setRow (Below.refl w.heap.size v6) (Nat.le_refl _) #[.slice A acc.length cp, .int .i64 kd, .int .i64 ag, .int .i64 nx, .int .i64 al]
      exact ⟨(A, cp), by rw [HV2.out]; rfl, by rw [HV2.out]; exact O6.out.spares (spares_row' Z2.out) (by decide), by rw [HV2.out]; exact R6.out.keep Bf hg, K6.out.later (Nat.le_of_lt hg) Bf⟩
    obtain ⟨k', rfl⟩ : ∃ k', k = k' + 1 := ⟨k - 1, by omega⟩
    have d : decide ((0 : Int) < ((k' + 1 : Nat) : Int)) = true := decide_eq_true (by omega)
    obtain ⟨Ar, capr, x1, -⟩ := HR.out
    have c1 : wr.cell? ⟨g, 1, none⟩ = some (.bool s2.2) := by rw [cell_blk x1]; rfl
    clear x1
    have HT1 : Hid (total = if s2.2 = true then (acc, s2) else rdL rdI k' (rdI s2).2 (acc ++ [(rdI s2).1])) := Lib.hid HT.out
    generalize hb : s2.2 = bad at *
    have HB := Lib.hid hb
    clear hb
    cases bad
    rotate_left
    · have HE : Hid (total = (acc, s2)) := Lib.hid (by rw [HT1.out]; rfl)
      clear HT HT1
      have HV2 : Hid (res = (⟨acc, (rdN 1 s2).1, (rdN 1 (rdN 1 s2).2).1, (rdN 2 (rdN 1 (rdN 1 s2).2).2).1, (rdN 2 (rdN 2 (rdN 1 (rdN 1 s2).2).2).2).1⟩, (rdN 2 (rdN 2 (rdN 1 (rdN 1 s2).2).2).2).2)) := Lib.hid (by rw [HV.out, HE.out])
      clear HV HE HC
      have N1 := Lib.hid (fun W h => HN.out 1 (by omega) (by omega) W s2 h); have b1 := rdN_lt 1 s2
      generalize rdN 1 s2 = q1 at *
      obtain ⟨kd, s3⟩ := q1
      dsimp only at *
      have N2 := Lib.hid (fun W h => HN.out 1 (by omega) (by omega) W s3 h); have b2 := rdN_lt 1 s3
      generalize rdN 1 s3 = q2 at *
      obtain ⟨ag, s4⟩ := q2
      dsimp only at *
      have N3 := Lib.hid (fun W h => HN.out 2 (by omega) (by omega) W s4 h); have b3 := rdN_lt 2 s4
      generalize rdN 2 s4 = q3 at *
      obtain ⟨nx, s5⟩ := q3
      dsimp only at *
      have N4 := Lib.hid (fun W h => HN.out 2 (by omega) (by omega) W s5 h); have b4 := rdN_lt 2 s5
      generalize rdN 2 s5 = q4 at *
      obtain ⟨al, s6⟩ := q4
      dsimp only at *
      have w1_ := wi64 kd (by omega) (by omega); have w2_ := wi64 ag (by omega) (by omega); have w3_ := wi64 nx (by omega) (by omega); have w4_ := wi64 al (by omega) (by omega)
      clear b1 b2 b3 b4
      go_wp2_with fail
      refine (N1.out _ HR.out).mono ?_
      rintro e v1 ⟨rfl, hr1, hk1⟩
      have R1 := Lib.hid hr1; have K1 := Lib.hid (HK.out.trans hk1); have Y2 := Lib.hid (hk1.blk (by decide) X2.out); have Y3 := Lib.hid (hk1.blk (by decide) X3.out); have O1 := Lib.hid (HO.out.rk hk1)
      clear hr1 hk1 N1
      go_wp2_with fail
      refine (N2.out _ R1.out).mono ?_
      rintro e v2 ⟨rfl, hr1, hk1⟩
      have R2 := Lib.hid hr1; have K2 := Lib.hid (K1.out.trans hk1); have Y2 := Lib.hid (hk1.blk (by decide) Y2.out); have Y3 := Lib.hid (hk1.blk (by decide) Y3.out); have O2 := Lib.hid (O1.out.rk hk1)
      clear hr1 hk1 N2
      have u1 : v2.cell? ⟨w.heap.size + 1, 1, none⟩ = some (.int .i64 0) := by rw [cell_blk Y3.out]; rfl
      have u2 : v2.cell? ⟨w.heap.size + 1, 2, none⟩ = some (.int .i64 0) := by rw [cell_blk Y3.out]; rfl
      have fz : ∀ j, v2.frozen? ⟨w.heap.size + 1, j, none⟩ = false := fun j => free_blk Y3.out j
      go_upto_region 10 with (fail)
      clear u1 u2 fz
      obtain ⟨d1, d2, d3⟩ := two_set Y3.out 1 2 (.int .i64 kd) (.int .i64 ag)
      generalize (v2.setCell ⟨w.heap.size + 1, 1, none⟩ (.int .i64 kd)).setCell ⟨w.heap.size + 1, 2, none⟩ (.int .i64 ag) = v3 at *
      have Z3 : Hid (v3.heap[w.heap.size + 1]? = some (.cells #[.slice A acc.length cp, .int .i64 kd, .int .i64 ag, .int .i64 0, .int .i64 0] 60 (0, 0))) := Lib.hid d1
      have Z2 := Lib.hid ((d3.block _ (by omega)).trans Y2.out)
      have O3 := Lib.hid (O2.out.spares (Spares.own_blk d2 Y3.out) (by decide))
      have R3 := Lib.hid (R2.out.keep d3 (by omega)); have K3 := Lib.hid (K2.out.later (Nat.le_of_lt hg) (d3.mono (by omega)))
      clear d1 d2 d3
      go_wp2_with fail
      refine (N3.out _ R3.out).mono ?_
      rintro e v4 ⟨rfl, hr1, hk1⟩
      have R4 := Lib.hid hr1; have K4 := Lib.hid (K3.out.trans hk1); have Y2 := Lib.hid (hk1.blk (by decide) Z2.out); have Y3 := Lib.hid (hk1.blk (by decide) Z3.out); have O4 := Lib.hid (O3.out.rk hk1)
      clear hr1 hk1 N3
      go_wp2_with fail
      refine (N4.out _ R4.out).mono ?_
      rintro e v5 ⟨rfl, hr1, hk1⟩
      have R5 := Lib.hid hr1; have K5 := Lib.hid (K4.out.trans hk1); have Y2 := Lib.hid (hk1.blk (by decide) Y2.out); have Y3 := Lib.hid (hk1.blk (by decide) Y3.out); have O5 := Lib.hid (O4.out.rk hk1)
      clear hr1 hk1 N4
      have u1 : v5.cell? ⟨w.heap.size + 1, 3, none⟩ = some (.int .i64 0) := by rw [cell_blk Y3.out]; rfl
      have u2 : v5.cell? ⟨w.heap.size + 1, 4, none⟩ = some (.int .i64 0) := by rw [cell_blk Y3.out]; rfl
      have fz : ∀ j, v5.frozen? ⟨w.heap.size + 1, j, none⟩ = false := fun j => free_blk Y3.out j
      go_upto_region 11 with (fail)
      clear u1 u2 fz
      obtain ⟨d1, d2, d3⟩ := two_set Y3.out 3 4 (.int .i64 nx) (.int .i64 al)
      generalize (v5.setCell ⟨w.heap.size + 1, 3, none⟩ (.int .i64 nx)).setCell ⟨w.heap.size + 1, 4, none⟩ (.int .i64 al) = v6 at *
      have Z3 : Hid (v6.heap[w.heap.size + 1]? = some (.cells #[.slice A acc.length cp, .int .i64 kd, .int .i64 ag, .int .i64 nx, .int .i64 al] 60 (0, 0))) := Lib.hid d1
      have Z2 := Lib.hid ((d3.block _ (by omega)).trans Y2.out)
      have O6 := Lib.hid (O5.out.spares (Spares.own_blk d2 Y3.out) (by decide))
      have R6 := Lib.hid (R5.out.keep d3 (by omega)); have K6 := Lib.hid (K5.out.later (Nat.le_of_lt hg) (d3.mono (by omega)))
      clear d1 d2 d3
      have m0 : v6.cell? ⟨w.heap.size + 1, 0, none⟩ = some (.slice A acc.length cp) := by rw [cell_blk Z3.out]; rfl
      have m1 : v6.cell? ⟨w.heap.size + 1, 1, none⟩ = some (.int .i64 kd) := by rw [cell_blk Z3.out]; rfl
      have m2 : v6.cell? ⟨w.heap.size + 1, 2, none⟩ = some (.int .i64 ag) := by rw [cell_blk Z3.out]; rfl
      have m3 : v6.cell? ⟨w.heap.size + 1, 3, none⟩ = some (.int .i64 nx) := by rw [cell_blk Z3.out]; rfl
      have m4 : v6.cell? ⟨w.heap.size + 1, 4, none⟩ = some (.int .i64 al) := by rw [cell_blk Z3.out]; rfl
      go_wp2_with (refine wpList_store_row (o := ⟨none, .store 60 (.tmp 2) (.tmp 49), _, _, _, _⟩) rfl _ _ _ rfl w.heap.size #[.slice A acc.length cp, .int .i64 kd, .int .i64 ag, .int .i64 nx, .int .i64 al] rfl rfl _ _ Z2.out (by kernel_rfl) rfl (by kernel_rfl) ?_)
      refine bodyPost_ret (results_cell_row rfl _ _ w.heap.size 60 #[.slice A acc.length cp, .int .i64 kd, .int .i64 ag, .int .i64 nx, .int .i64 al] (0, 0) _ rfl (setRow_heap _ _ _ #[.slice A acc.length cp, .int .i64 kd, .int .i64 ag, .int .i64 nx, .int .i64 al] _ (0, 0) Z2.out) Try.underlying60 rfl (by kernel_rfl)) rfl ?_
      have Bf := below_setRow (Below.refl w.heap.size v6) (Nat.le_refl _) #[.slice A acc.length cp, .int .i64 kd, .int .i64 ag, .int .i64 nx, .int .i64 al]
      exact ⟨(A, cp), by rw [HV2.out]; rfl, by rw [HV2.out]; exact O6.out.spares (spares_row' Z2.out) (by decide), by rw [HV2.out]; exact R6.out.keep Bf hg, K6.out.later (Nat.le_of_lt hg) Bf⟩
    have HE0 : Hid (total = rdL rdI k' (rdI s2).2 (acc ++ [(rdI s2).1])) := Lib.hid (by rw [HT1.out]; rfl)
    clear HT HT1 HV HC
    have N1 := Lib.hid (fun W h => HN.out 1 (by omega) (by omega) W s2 h); have b1 := rdN_lt 1 s2
    have J1 := Lib.hid (rdI_lit (s := s2)); have J2 := Lib.hid (rdI_not (s := s2))
    generalize rdI s2 = ri at *
    generalize rdN 1 s2 = q1 at *
    obtain ⟨op, s3⟩ := q1
    dsimp only at *
    have N2 := Lib.hid (fun W h => HN.out 1 (by omega) (by omega) W s3 h); have b2 := rdN_lt 1 s3
    generalize rdN 1 s3 = q2 at *
    obtain ⟨ag, s4⟩ := q2
    dsimp only at *
    have e1 := u8_back op (by omega); have e2 := wi64 ag (by omega) (by omega)
    clear b1 b2
    go_wp2_with fail
    refine (N1.out _ HR.out).mono ?_
    rintro e v1 ⟨rfl, hr1, hk1⟩
    have R1 := Lib.hid hr1; have K1 := Lib.hid (HK.out.trans hk1); have X2 := Lib.hid (hk1.blk (by decide) X2.out); have X3 := Lib.hid (hk1.blk (by decide) X3.out); have O1 := Lib.hid (HO.out.rk hk1)
    clear hr1 hk1 N1 c1 d
    go_wp2_with fail
    refine (N2.out _ R1.out).mono ?_
    rintro e v2 ⟨rfl, hr1, hk1⟩
    have R2 := Lib.hid hr1; have K2 := Lib.hid (K1.out.trans hk1); have X2 := Lib.hid (hk1.blk (by decide) X2.out); have X3 := Lib.hid (hk1.blk (by decide) X3.out); have O2 := Lib.hid (O1.out.rk hk1)
    have hs2 : w.heap.size ≤ v2.heap.size := K2.out.1.1
    have HNEo := Lib.hid (own_ne O2.out (Nat.le_refl _))
    have hg2 : Hid (w.heap.size + 1 < v2.heap.size) := Lib.hid (lt_blk X3.out)
    clear hr1 hk1 N2
    go_upto_region 6 with (fail)
    obtain ⟨b0_, hb_⟩ := boxes1 v2 (.cells #[.int .u8 op, .int .i64 ag, .int .u8 0, .int .u64 0] 53)
    generalize v2.alloc (.cells #[.int .u8 op, .int .i64 ag, .int .u8 0, .int .u64 0] 53) = v3 at *
    have T5b : Hid (∀ W, Below v3.heap.size v3 W → W.heap[v2.heap.size]? = some (.cells #[.int .u8 op, .int .i64 ag, .int .u8 0, .int .u64 0] 53 (0, 0))) := Lib.hid (fun W hW => (hW.block _ (lt_blk b0_)).trans b0_)
    have T5 : Hid (∀ W, Below v3.heap.size v3 W → W.cell? ⟨v2.heap.size, 0, none⟩ = some (.int .u8 op) ∧ W.cell? ⟨v2.heap.size, 1, none⟩ = some (.int .i64 ag) ∧ W.cell? ⟨v2.heap.size, 2, none⟩ = some (.int .u8 0) ∧ W.cell? ⟨v2.heap.size, 3, none⟩ = some (.int .u64 0)) := Lib.hid (fun W hW => by have e := (hW.block _ (lt_blk b0_)).trans b0_; exact ⟨by rw [cell_blk e]; rfl, by rw [cell_blk e]; rfl, by rw [cell_blk e]; rfl, by rw [cell_blk e]; rfl⟩)
    have B5 := Lib.hid hb_
    clear hb_ b0_
    have X5 := Lib.hid (T5b.out v3 (Below.refl _ _))
    have X2 := Lib.hid ((B5.out.block _ (lt_blk X2.out)).trans X2.out); have X3 := Lib.hid ((B5.out.block _ (lt_blk X3.out)).trans X3.out)
    have O3 := Lib.hid (OwI.below O2.out B5.out); have R3 := Lib.hid (R2.out.below B5.out); have K3 := Lib.hid (K2.out.trans (RK.of_below B5.out (Nat.le_trans (Nat.le_of_lt hg) hs2)))
    obtain ⟨y0, -, -, -⟩ := T5.out v3 (Below.refl _ _)
    clear T5 T5b B5 e1 e2
    by_cases g1 : op = 1
    · have q : ((op : Int) == 1) = true := by rw [g1]; rfl
      have HE : Hid (total = rdL rdI k' (rdV s4).2 (acc ++ [⟨op, ag, (rdV s4).1⟩])) := Lib.hid (by rw [HE0.out, J1.out g1])
      clear g1
      have NV := Lib.hid (HVL.out v3 s4 R3.out)
      clear HE0 J1 J2
      generalize rdV s4 = rv at *
      obtain ⟨⟨t, bt⟩, s5⟩ := rv
      dsimp only at *
      go_wp2_with fail
      refine NV.out.mono ?_
      rintro e v4 ⟨rfl, hr1, hk1⟩
      have R4 := Lib.hid hr1; have K4 := Lib.hid (K3.out.trans hk1); have X2 := Lib.hid (hk1.blk (by decide) X2.out); have X3 := Lib.hid (hk1.blk (by decide) X3.out); have X5 := Lib.hid (hk1.blk (by decide) X5.out); have O4 := Lib.hid (O3.out.rk hk1)
      clear hr1 hk1 NV y0
      have u1 : v4.cell? ⟨v2.heap.size, 2, none⟩ = some (.int .u8 0) := by rw [cell_blk X5.out]; rfl
      have u2 : v4.cell? ⟨v2.heap.size, 3, none⟩ = some (.int .u64 0) := by rw [cell_blk X5.out]; rfl
      have fz : ∀ j, v4.frozen? ⟨v2.heap.size, j, none⟩ = false := fun j => free_blk X5.out j
      go_upto_region 8 with (fail)
      clear u1 u2 fz
      have lt2 := lt_blk X2.out; have lt3 := lt_blk X3.out
      have ne2 : w.heap.size ≠ v2.heap.size := by intro e; have := hg2.out; omega
      obtain ⟨d1, d2, d3⟩ := two_set X5.out 2 3 (.int .u8 t) (.int .u64 bt)
      generalize (v4.setCell ⟨v2.heap.size, 2, none⟩ (.int .u8 t)).setCell ⟨v2.heap.size, 3, none⟩ (.int .u64 bt) = wa at *
      have X2 := Lib.hid ((d3.block _ (by have := hg2.out; omega)).trans X2.out); have X3 := Lib.hid ((d3.block _ (by have := hg2.out; omega)).trans X3.out)
      have X5o := X5
      have X5 : Hid (wa.heap[v2.heap.size]? = some (.cells #[.int .u8 op, .int .i64 ag, .int .u8 t, .int .u64 bt] 53 (0, 0))) := Lib.hid d1
      have OI := Lib.hid (O4.out.kept d2 HNEo.out)
      have RR := Lib.hid (R4.out.keep d3 (by have := hg2.out; omega)); have KK := Lib.hid (K4.out.later (Nat.le_of_lt hg) (d3.mono (by have := hg2.out; omega)))
      clear d1 d2 d3 lt2 lt3 ne2 X5o
      have hg2 := hg2.out
      have y0 : wa.cell? ⟨v2.heap.size, 0, none⟩ = some (.int .u8 op) := by rw [cell_blk X5.out]; rfl
      have y1 : wa.cell? ⟨v2.heap.size, 1, none⟩ = some (.int .i64 ag) := by rw [cell_blk X5.out]; rfl
      have y2 : wa.cell? ⟨v2.heap.size, 2, none⟩ = some (.int .u8 t) := by rw [cell_blk X5.out]; rfl
      have y3 : wa.cell? ⟨v2.heap.size, 3, none⟩ = some (.int .u64 bt) := by rw [cell_blk X5.out]; rfl
      have z0 : wa.cell? ⟨w.heap.size + 1, 0, none⟩ = some (.slice A acc.length cp) := by rw [cell_blk X3.out]; rfl
      have hBa : w.heap.size ≤ wa.heap.size := KK.out.1.1
      go_upto_region 4 with (at_builtin; refine wpList_append_oneS ESI [.int .u8 op, .int .i64 ag, .int .u8 t, .int .u64 bt] _ rfl rfl (.tmp 32) (.tmp 34) rfl w.heap.size (by intro u hu; simp at hu; rcases hu with rfl | rfl | rfl | rfl <;> rfl) 1 rfl (.slice A acc.length cp) acc.length (acc.flatMap ic) rfl OI.out rfl (by omega) (by omega) wa hBa (Below.refl _ _) ?_; intro v' w' h2 h3 h4 h5; clear h5; have Sp := Lib.hid (Spares.grown h4 (own_row OI.out)); clear h4; have h6 := own_sv h2; obtain ⟨p', rfl, h6⟩ := h6; unfold sv at h6 ⊢; have O4 := Lib.hid h6; have B4 := Lib.hid h3; have X9 := Lib.hid (Sp.out.2 _ _ _ _ (by decide) X3.out); have X92 := Lib.hid (Sp.out.2 _ _ _ _ (by decide) X2.out); have c9 := cell_blk X9.out 0; have f9 := free_blk X9.out 0; clear h6 h2 h3)
      clear y0 y1 y2 y3 z0
      obtain ⟨d1, d2⟩ := set1 X9.out 0 (.slice p'.1 (acc.length + 1) p'.2)
      have Bd := Lib.hid (B4.out.trans (below_set1 w' (w.heap.size + 1) 0 (.slice p'.1 (acc.length + 1) p'.2) |>.mono (by omega)))
      have SpN := Lib.hid (Spares.own_blk d2 X9.out)
      have D2 := Lib.hid ((d2.block _ (lt_blk X92.out) (by intro e; injection e with e; omega)).trans X92.out)
      have D1 := Lib.hid d1
      clear d1 d2 c9 f9
      generalize w'.setCell ⟨w.heap.size + 1, 0, none⟩ (.slice p'.1 (acc.length + 1) p'.2) = wd at *
      go_wp2_with fail
      go_roundw
      case rel => exact ⟨k', s5, acc ++ [⟨op, ag, ⟨t, bt⟩⟩], p', by go_num, by omega, by rw [List.length_append, List.length_singleton]; omega, HE.out, by rw [D1.out, List.length_append]; rfl, D2.out, by have := Spares.own SpN.out (by decide) O4.out; unfold OwI sv; rw [List.length_append, List.flatMap_append]; exact this, RR.out.keep Bd.out hg, KK.out.later (Nat.le_of_lt hg) Bd.out⟩
      case measure => simp [intOf]
    have q : ((op : Int) == 1) = false := by rw [beq_eq_false_iff_ne]; omega
    obtain ⟨t, ht⟩ : ∃ t : Int, (0 : Int) = t := ⟨_, rfl⟩
    obtain ⟨bt, hbt⟩ : ∃ t : Int, (0 : Int) = t := ⟨_, rfl⟩
    have HE : Hid (total = rdL rdI k' s4 (acc ++ [⟨op, ag, ⟨t, bt⟩⟩])) := Lib.hid (by rw [HE0.out, J2.out g1, ← ht, ← hbt]; rfl)
    have X5 : Hid (v3.heap[v2.heap.size]? = some (.cells #[.int .u8 op, .int .i64 ag, .int .u8 t, .int .u64 bt] 53 (0, 0))) := Lib.hid (by rw [← ht, ← hbt]; exact X5.out)
    clear HE0 J1 J2 g1 ht hbt
    obtain ⟨s5, e5⟩ : ∃ x, x = s4 := ⟨_, rfl⟩; subst e5
    go_upto_region 8 with (fail)
    clear y0
    obtain ⟨wa, e5⟩ : ∃ x, x = v3 := ⟨_, rfl⟩; subst e5
    have OI := O3; have RR := R3; have KK := K3
    have hg2 := hg2.out
    have y0 : wa.cell? ⟨v2.heap.size, 0, none⟩ = some (.int .u8 op) := by rw [cell_blk X5.out]; rfl
    have y1 : wa.cell? ⟨v2.heap.size, 1, none⟩ = some (.int .i64 ag) := by rw [cell_blk X5.out]; rfl
    have y2 : wa.cell? ⟨v2.heap.size, 2, none⟩ = some (.int .u8 t) := by rw [cell_blk X5.out]; rfl
    have y3 : wa.cell? ⟨v2.heap.size, 3, none⟩ = some (.int .u64 bt) := by rw [cell_blk X5.out]; rfl
    have z0 : wa.cell? ⟨w.heap.size + 1, 0, none⟩ = some (.slice A acc.length cp) := by rw [cell_blk X3.out]; rfl
    have hBa : w.heap.size ≤ wa.heap.size := KK.out.1.1
    go_upto_region 4 with (at_builtin; refine wpList_append_oneS ESI [.int .u8 op, .int .i64 ag, .int .u8 t, .int .u64 bt] _ rfl rfl (.tmp 32) (.tmp 34) rfl w.heap.size (by intro u hu; simp at hu; rcases hu with rfl | rfl | rfl | rfl <;> rfl) 1 rfl (.slice A acc.length cp) acc.length (acc.flatMap ic) rfl OI.out rfl (by omega) (by omega) wa hBa (Below.refl _ _) ?_; intro v' w' h2 h3 h4 h5; clear h5; have Sp := Lib.hid (Spares.grown h4 (own_row OI.out)); clear h4; have h6 := own_sv h2; obtain ⟨p', rfl, h6⟩ := h6; unfold sv at h6 ⊢; have O4 := Lib.hid h6; have B4 := Lib.hid h3; have X9 := Lib.hid (Sp.out.2 _ _ _ _ (by decide) X3.out); have X92 := Lib.hid (Sp.out.2 _ _ _ _ (by decide) X2.out); have c9 := cell_blk X9.out 0; have f9 := free_blk X9.out 0; clear h6 h2 h3)
    clear y0 y1 y2 y3 z0
    obtain ⟨d1, d2⟩ := set1 X9.out 0 (.slice p'.1 (acc.length + 1) p'.2)
    have Bd := Lib.hid (B4.out.trans (below_set1 w' (w.heap.size + 1) 0 (.slice p'.1 (acc.length + 1) p'.2) |>.mono (by omega)))
    have SpN := Lib.hid (Spares.own_blk d2 X9.out)
    have D2 := Lib.hid ((d2.block _ (lt_blk X92.out) (by intro e; injection e with e; omega)).trans X92.out)
    have D1 := Lib.hid d1
    clear d1 d2 c9 f9
    generalize w'.setCell ⟨w.heap.size + 1, 0, none⟩ (.slice p'.1 (acc.length + 1) p'.2) = wd at *
    go_wp2_with fail
    go_roundw
    case rel => exact ⟨k', s5, acc ++ [⟨op, ag, ⟨t, bt⟩⟩], p', by go_num, by omega, by rw [List.length_append, List.length_singleton]; omega, HE.out, by rw [D1.out, List.length_append]; rfl, D2.out, by have := Spares.own SpN.out (by decide) O4.out; unfold OwI sv; rw [List.length_append, List.flatMap_append]; exact this, RR.out.keep Bd.out hg, KK.out.later (Nat.le_of_lt hg) Bd.out⟩
    case measure => simp [intOf]
end Go.Proofs.Ytbmpjphemjponaa
end

section
set_option linter.unusedSimpArgs false
set_option linter.unusedVariables false
namespace Go.Proofs.Ytbmpjphemjponaa
open Go.RowKit

def GotBs (w : World) (l : List UInt8) (e : Ending) (w' : World) : Prop := ∃ (A : Option Addr) (cap : Nat), e = .returned (.slice A l.length cap) ∧ Bs w' w'.heap.size A l ∧ (A = none → l = []) ∧ l.length ≤ cap ∧ Below w.heap.size w w'
set_option maxRecDepth 100000 in
set_option maxHeartbeats 1000000 in
theorem clone_bytes (l : List UInt8) (hl : l.length ≤ 100000000) (A : Option Addr) (cap B : Nat) (w : World) (hA : Bs w B A l) (hA0 : A = none → l = []) (hB : B ≤ w.heap.size) :
    Calls Try.prog 41 #[.slice A l.length cap] w (GotBs w l) := by
  have HA := Lib.hid hA.rd
  have HA0 := Lib.hid hA0
  clear hA hA0
  have q22 : ∀ (w : World) (a : Option Addr) (n c n' c' : Nat), (binOp .eql 31 (.slice a n c) (.slice none n' c')).run Try.prog w = .ok (.bool a.isNone) w := fun w a n c n' c' => Lib.run_eql_slice_nil w _ _ a n c n' c' Try.underlying31
  rcases A with _ | a
  · obtain rfl := HA0.out rfl
    go_enter Try.func41, Try.ntmps41
    go_wp2_with fail
    go_ret
    exact ⟨none, 0, rfl, fun j hj => absurd hj (Nat.not_lt_zero _), fun _ => rfl, Nat.le_refl _, Below.refl _ _⟩
  · generalize hn : l.length = n at *
    have HL := Lib.hid hn
    clear hn
    go_enter Try.func41, Try.ntmps41
    go_wp2_with (at_builtin; refine wpList_append_src E5 rfl (.tmp 5) (.tmp 6) rfl w.heap.size _ 0 [] rfl (owns0S w _ _ _ (Nat.le_refl _)) B (some a) (bcells l) n cap rfl (by rw [← HL.out]; exact bcells_length l) ((HA.out).keep fun b o hb => World.cell?_alloc_lt _ _ _ (Nat.lt_of_lt_of_le hb hB)) (fun h => by cases h) (bcells_one l) (by omega) (by omega) w (Nat.le_refl _) (below_alloc _ _) ?_; intro v' w' h2 h3 h4 h5; clear h4 h5; have H2 := Lib.hid h2; have H3 := Lib.hid h3; clear h2 h3)
    go_ret
    have h6 := own_rdS H2.out
    obtain ⟨A', cap', rfl, h7, h8, h9⟩ := h6
    rw [List.nil_append] at h7
    exact ⟨A', cap', by rw [Nat.zero_add, HL.out]; rfl, h7.bs, fun h => by have := h8 h; exact List.eq_nil_of_length_eq_zero (by rw [HL.out]; omega), by rw [HL.out]; omega, H3.out⟩
/-- in the loop over a body's nodes. -/
def RdF (wo : World) (g g7 : Nat) (p r : Slc) (lo : List Vl) (st : Int) (acc : List Nd) (s : Rst) (W : World) : Prop :=
  W.heap[g7]? = some (.cells #[.slice p.1 lo.length p.2, .int .i64 st, .slice r.1 acc.length r.2] 57 (0, 0)) ∧ OwV W wo.heap.size p lo ∧ OwNs W wo.heap.size r acc ∧ RdS W g s ∧ RK g wo W
theorem OwNs.rk {w w' : World} {L g : Nat} {p : Slc} {l : List Nd} (h : OwNs w L p l) (hk : RK g w w') : OwNs w' L p l := h.spares hk.1 (by decide) (by decide)
theorem OwBs.rk {w w' : World} {L g : Nat} {p : Slc} {l : List Bd} (h : OwBs w L p l) (hk : RK g w w') : OwBs w' L p l := h.spares hk.1 (by decide) (by decide) (by decide) (by decide)
theorem RdF.rk {wo : World} {g g7 : Nat} {p r : Slc} {lo : List Vl} {st : Int} {acc : List Nd} {s s' : Rst} {W W' : World} (h : RdF wo g g7 p r lo st acc s W) (hk : RK g W W') (hs : RdS W' g s') : RdF wo g g7 p r lo st acc s' W' := by
  obtain ⟨h1, h2, h3, h4, h5⟩ := h
  exact ⟨hk.blk (by decide) h1, h2.rk hk, h3.rk hk, hs, h5.trans hk⟩
theorem RdF.below {wo : World} {g g7 : Nat} {p r : Slc} {lo : List Vl} {st : Int} {acc : List Nd} {s : Rst} {W W' : World} (h : RdF wo g g7 p r lo st acc s W) (hb : Below W.heap.size W W') : RdF wo g g7 p r lo st acc s W' := by
  have hs := h.2.2.2.1
  exact h.rk (RK.of_below hb (Nat.le_of_lt hs.lt)) (hs.below hb)
theorem RdF.keepsW (wo : World) (g g7 : Nat) (p r : Slc) (lo : List Vl) (st : Int) (acc : List Nd) (s : Rst) : KeepsW (RdF wo g g7 p r lo st acc s) := fun _ _ h hb => h.below hb
/-- the node that has been read, behind it. -/
def RdF1 (wo : World) (g g7 : Nat) (p r : Slc) (lo : List Vl) (st : Int) (acc : List Nd) (x : Nd) (s : Rst) (v : Value) (W : World) : Prop :=
  RdF wo g g7 p r lo st acc s W ∧ ∃ q : Slc, v = ndv x q ∧ OwI W wo.heap.size q x.code
theorem RdF1.keepsW (wo : World) (g g7 : Nat) (p r : Slc) (lo : List Vl) (st : Int) (acc : List Nd) (x : Nd) (s : Rst) (v : Value) : KeepsW (RdF1 wo g g7 p r lo st acc x s v) := fun _ _ h hb => by
  obtain ⟨h1, q, h2, h3⟩ := h
  exact ⟨h1.below hb, q, h2, h3.below hb⟩
/-- and its cells in a block of their own. -/
def RdF2 (wo : World) (g g7 : Nat) (p r : Slc) (lo : List Vl) (st : Int) (acc : List Nd) (x : Nd) (s : Rst) (v : Value) (W : World) : Prop :=
  RdF wo g g7 p r lo st acc s W ∧ ∃ (q : Slc) (gb : Nat), v = .slice (some ⟨gb, 0, none⟩) 1 1 ∧ W.heap[gb]? = some (.cells (ndc x q).toArray 60 (0, 0)) ∧ OwI W wo.heap.size q x.code
theorem RdF2.keepsW (wo : World) (g g7 : Nat) (p r : Slc) (lo : List Vl) (st : Int) (acc : List Nd) (x : Nd) (s : Rst) (v : Value) : KeepsW (RdF2 wo g g7 p r lo st acc x s v) := fun _ _ h hb => by
  obtain ⟨h1, q, gb, h2, h3, h4⟩ := h
  exact ⟨h1.below hb, q, gb, h2, (hb.block _ (lt_blk h3)).trans h3, h4.below hb⟩
theorem node_eff {wo W : World} {g g7 : Nat} {p r : Slc} {lo : List Vl} {st : Int} {acc : List Nd} {s : Rst} (h : RdF wo g g7 p r lo st acc s W) (hwo : wo.heap.size ≤ W.heap.size) (INV : World → Prop) (hI : ∀ s' W', RdF wo g g7 p r lo st acc s' W' → INV W') :
    Calls Try.prog 44 #[.pointer (some ⟨g, 0, none⟩)] W fun e w'' => ∃ v, e = .returned v ∧ INV w'' ∧ True ∧ RdF1 wo g g7 p r lo st acc (rdNd s).1 (rdNd s).2 v w'' :=
  (node_rd s g W h.2.2.2.1).mono fun e w'' ⟨q, h1, h2, h3, h4⟩ => ⟨_, h1, hI _ _ (h.rk h4 h3), trivial, h.rk h4 h3, q, rfl, h2.le hwo⟩
end Go.Proofs.Ytbmpjphemjponaa
end
