/- code.node; instructions asked one by one. -/
import Derived.Test.YtbmpjphemjponaaWb
set_option linter.unusedSimpArgs false
set_option linter.unusedVariables false
namespace Go.Proofs.Ytbmpjphemjponaa
open Go.RowKit

set_option maxRecDepth 100000 in
set_option maxHeartbeats 1000000 in
theorem node_any (ns nl nb nn : Nat) (mt st : Int) (p q p2 q2 p3 : Slc) (n : Nd) (h1 : ns ≤ 4000000) (h2 : nl ≤ 4000000) (h3 : nn ≤ 4000000) (w : World) :
    Calls Try.prog 79 #[cav p q ns nb mt, cav p2 q2 nl nn st, ndv n p3] w fun e w' => e = .returned (.bool (ndOk ns nl nn mt n)) ∧ Below w.heap.size w w' := by
  have H : Hid (ndOk ns nl nn mt n = ((decide (1 ≤ n.kind) && decide (n.kind ≤ 7)) && ((if n.kind = 1 then wi n.arg nl else if n.kind = 2 then wi n.arg ns else if n.kind = 3 ∨ n.kind = 4 then wi n.arg mt else decide (n.arg = 0)) && (wi n.next (nn + 1) && (if n.kind = 6 then wi n.alt (nn + 1) else decide (n.alt = 0)))))) := Lib.hid rfl
  have HW1 := Lib.hid (within_any n.arg nl); have HW2 := Lib.hid (within_any n.arg ns); have HW3 := Lib.hid (within_any n.arg mt); have HW4 := Lib.hid (within_any n.next (nn + 1)); have HW5 := Lib.hid (within_any n.alt (nn + 1))
  unfold cav ndv
  generalize ndOk ns nl nn mt n = r at *
  generalize wi n.arg nl = r1 at *
  generalize wi n.arg ns = r2 at *
  generalize wi n.arg mt = r3 at *
  generalize wi n.next (nn + 1) = r4 at *
  generalize wi n.alt (nn + 1) = r5 at *
  obtain ⟨cd, kind, arg, next, alt⟩ := n
  obtain ⟨A, cp⟩ := p; obtain ⟨A', cp'⟩ := q; obtain ⟨A2, cp2⟩ := p2; obtain ⟨A2', cp2'⟩ := q2; obtain ⟨A3, cp3⟩ := p3
  dsimp only at *
  generalize cd.length = nc at *
  generalize he0 : decide (arg = 0) = e0 at *
  have f0 : (arg == 0) = e0 := he0
  generalize he1 : decide (alt = 0) = e1 at *
  have f1 : (alt == 0) = e1 := he1
  clear he0 he1
  go_enter Try.func79, Try.ntmps79
  go_upto_region 1 with (fail)
  obtain ⟨b0_, b1_, b2_, hb_⟩ := boxes3 w (.cells #[.slice A ns cp, .int .i64 mt, .slice A' nb cp'] 25) (.cells #[.slice A2 nl cp2, .int .i64 st, .slice A2' nn cp2'] 57) (.cells #[.slice A3 nc cp3, .int .i64 kind, .int .i64 arg, .int .i64 next, .int .i64 alt] 60)
  generalize ((w.alloc (.cells #[.slice A ns cp, .int .i64 mt, .slice A' nb cp'] 25)).alloc (.cells #[.slice A2 nl cp2, .int .i64 st, .slice A2' nn cp2'] 57)).alloc (.cells #[.slice A3 nc cp3, .int .i64 kind, .int .i64 arg, .int .i64 next, .int .i64 alt] 60) = wx at *
  have T0 : Hid (∀ W, Below wx.heap.size wx W → W.cell? ⟨w.heap.size, 0, none⟩ = some (.slice A ns cp) ∧ W.cell? ⟨w.heap.size, 1, none⟩ = some (.int .i64 mt) ∧ W.cell? ⟨w.heap.size, 2, none⟩ = some (.slice A' nb cp')) := Lib.hid (fun W hW => by have e := (hW.block _ (lt_blk b0_)).trans b0_; exact ⟨by rw [cell_blk e]; rfl, by rw [cell_blk e]; rfl, by rw [cell_blk e]; rfl⟩)
  have T1 : Hid (∀ W, Below wx.heap.size wx W → W.cell? ⟨w.heap.size + 1, 0, none⟩ = some (.slice A2 nl cp2) ∧ W.cell? ⟨w.heap.size + 1, 1, none⟩ = some (.int .i64 st) ∧ W.cell? ⟨w.heap.size + 1, 2, none⟩ = some (.slice A2' nn cp2')) := Lib.hid (fun W hW => by have e := (hW.block _ (lt_blk b1_)).trans b1_; exact ⟨by rw [cell_blk e]; rfl, by rw [cell_blk e]; rfl, by rw [cell_blk e]; rfl⟩)
  have T2 : Hid (∀ W, Below wx.heap.size wx W → W.cell? ⟨w.heap.size + 1 + 1, 0, none⟩ = some (.slice A3 nc cp3) ∧ W.cell? ⟨w.heap.size + 1 + 1, 1, none⟩ = some (.int .i64 kind) ∧ W.cell? ⟨w.heap.size + 1 + 1, 2, none⟩ = some (.int .i64 arg) ∧ W.cell? ⟨w.heap.size + 1 + 1, 3, none⟩ = some (.int .i64 next) ∧ W.cell? ⟨w.heap.size + 1 + 1, 4, none⟩ = some (.int .i64 alt)) := Lib.hid (fun W hW => by have e := (hW.block _ (lt_blk b2_)).trans b2_; exact ⟨by rw [cell_blk e]; rfl, by rw [cell_blk e]; rfl, by rw [cell_blk e]; rfl, by rw [cell_blk e]; rfl, by rw [cell_blk e]; rfl⟩)
  have BA := Lib.hid hb_
  clear hb_ b0_ b1_ b2_
  obtain ⟨x0, x1, -⟩ := T0.out wx (Below.refl _ _)
  obtain ⟨y0, -, y2⟩ := T1.out wx (Below.refl _ _)
  obtain ⟨-, z1, z2, z3, z4⟩ := T2.out wx (Below.refl _ _)
  clear T0 T1 T2
  by_cases g1 : kind = 1
  · subst g1
    have HN : Hid (r = (r1 && (r4 && e1))) := Lib.hid H.out
    clear H
    go_wp2_with fail
    refine (HW1.out _).mono ?_
    rintro e w1 ⟨rfl, rfl⟩
    go_wp2_with fail
    refine (HW4.out _).mono ?_
    rintro e w1 ⟨rfl, rfl⟩
    cases r1 <;> cases r4
    all_goals
      go_wp2_with fail
      go_ret
      exact ⟨ret_bool HN.out.symm, BA.out⟩
  by_cases g2 : kind = 2
  · subst g2
    have HN : Hid (r = (r2 && (r4 && e1))) := Lib.hid H.out
    clear H
    go_wp2_with fail
    refine (HW2.out _).mono ?_
    rintro e w1 ⟨rfl, rfl⟩
    go_wp2_with fail
    refine (HW4.out _).mono ?_
    rintro e w1 ⟨rfl, rfl⟩
    cases r2 <;> cases r4
    all_goals
      go_wp2_with fail
      go_ret
      exact ⟨ret_bool HN.out.symm, BA.out⟩
  by_cases g3 : kind = 3
  · subst g3
    have HN : Hid (r = (r3 && (r4 && e1))) := Lib.hid H.out
    clear H
    go_wp2_with fail
    refine (HW3.out _).mono ?_
    rintro e w1 ⟨rfl, rfl⟩
    go_wp2_with fail
    refine (HW4.out _).mono ?_
    rintro e w1 ⟨rfl, rfl⟩
    cases r3 <;> cases r4
    all_goals
      go_wp2_with fail
      go_ret
      exact ⟨ret_bool HN.out.symm, BA.out⟩
  by_cases g4 : kind = 4
  · subst g4
    have HN : Hid (r = (r3 && (r4 && e1))) := Lib.hid H.out
    clear H
    go_wp2_with fail
    refine (HW3.out _).mono ?_
    rintro e w1 ⟨rfl, rfl⟩
    go_wp2_with fail
    refine (HW4.out _).mono ?_
    rintro e w1 ⟨rfl, rfl⟩
    cases r3 <;> cases r4
    all_goals
      go_wp2_with fail
      go_ret
      exact ⟨ret_bool HN.out.symm, BA.out⟩
  by_cases g5 : kind = 5
  · subst g5
    have HN : Hid (r = (e0 && (r4 && e1))) := Lib.hid H.out
    clear H
    go_wp2_with fail
    refine (HW4.out _).mono ?_
    rintro e w1 ⟨rfl, rfl⟩
    cases e0 <;> cases r4
    all_goals
      go_wp2_with fail
      go_ret
      exact ⟨ret_bool HN.out.symm, BA.out⟩
  by_cases g7 : kind = 7
  · subst g7
    have HN : Hid (r = (e0 && (r4 && e1))) := Lib.hid H.out
    clear H
    go_wp2_with fail
    refine (HW4.out _).mono ?_
    rintro e w1 ⟨rfl, rfl⟩
    cases e0 <;> cases r4
    all_goals
      go_wp2_with fail
      go_ret
      exact ⟨ret_bool HN.out.symm, BA.out⟩
  by_cases g6 : kind = 6
  · subst g6
    have HN : Hid (r = (e0 && (r4 && r5))) := Lib.hid H.out
    clear H
    go_wp2_with fail
    refine (HW4.out _).mono ?_
    rintro e w1 ⟨rfl, rfl⟩
    cases e0 <;> cases r4
    all_goals
      go_wp2_with fail
      try
        refine (HW5.out _).mono ?_
        rintro e w1 ⟨rfl, rfl⟩
        go_wp2_with fail
      go_ret
      exact ⟨ret_bool HN.out.symm, BA.out⟩
  have HN : Hid (r = false) := Lib.hid (by
    rw [H.out]
    by_cases a : 1 ≤ kind
    · rw [decide_eq_false (show ¬ kind ≤ 7 by omega)]; simp
    · rw [decide_eq_false a]; rfl)
  have d1 : (kind == 1) = false := by simpa using g1
  have d2 : (kind == 2) = false := by simpa using g2
  have d3 : (kind == 3) = false := by simpa using g3
  have d4 : (kind == 4) = false := by simpa using g4
  have d5 : (kind == 5) = false := by simpa using g5
  have d6 : (kind == 6) = false := by simpa using g6
  have d7 : (kind == 7) = false := by simpa using g7
  clear g1 g2 g3 g4 g5 g6 g7 H
  go_wp2_with fail
  go_ret
  exact ⟨ret_bool HN.out.symm, BA.out⟩
/-! ### instructions, one by one -/
/-- the two variables that the function takes with it. -/
def Two (w : World) (L g1 g2 : Nat) (V1 V2 : Array Value) : Prop := ∀ W, Below L w W → W.heap[g1]? = some (.cells V1 25 (0, 0)) ∧ W.heap[g2]? = some (.cells V2 57 (0, 0))
theorem Two.of {w : World} {g1 g2 : Nat} {V1 V2 : Array Value} (h1 : w.heap[g1]? = some (.cells V1 25 (0, 0))) (h2 : w.heap[g2]? = some (.cells V2 57 (0, 0))) : Two w w.heap.size g1 g2 V1 V2 := fun W hW =>
  ⟨(hW.block _ (lt_blk h1)).trans h1, (hW.block _ (lt_blk h2)).trans h2⟩
set_option maxRecDepth 100000 in
set_option maxHeartbeats 1000000 in
theorem notin_any (ns nl nb nn : Nat) (mt st : Int) (p q p2 q2 : Slc) (g1 g2 : Nat) (i : Ins) (hb : 0 ≤ i.l.b) (h1 : ns ≤ 4000000) (h2 : nl ≤ 4000000) (w : World)
    (hc : w.heap[g1]? = some (.cells #[.slice p.1 ns p.2, .int .i64 mt, .slice q.1 nb q.2] 25 (0, 0))) (hd : w.heap[g2]? = some (.cells #[.slice p2.1 nl p2.2, .int .i64 st, .slice q2.1 nn q2.2] 57 (0, 0))) :
    Calls Try.prog 77 #[inv i, .pointer (some ⟨g1, 0, none⟩), .pointer (some ⟨g2, 0, none⟩)] w fun e w' => e = .returned (.bool (!inOk ns nl i)) ∧ Below w.heap.size w w' := by
  have HI := Lib.hid (fun W => instr_any ns nl nb nn mt st p q p2 q2 i hb h1 h2 W)
  have HC := Lib.hid hc; have HD := Lib.hid hd
  clear hc hd
  unfold inv cav at *
  generalize inOk ns nl i = r at *
  obtain ⟨op, arg, t, b⟩ := i
  obtain ⟨A, cp⟩ := p; obtain ⟨A', cp'⟩ := q; obtain ⟨A2, cp2⟩ := p2; obtain ⟨A2', cp2'⟩ := q2
  dsimp only at *
  go_enter Try.func77, Try.ntmps77
  go_upto_region 1 with (fail)
  obtain ⟨b0_, hb_⟩ := boxes1 w (.cells #[.int .u8 op, .int .i64 arg, .int .u8 t, .int .u64 b] 53)
  generalize w.alloc (.cells #[.int .u8 op, .int .i64 arg, .int .u8 t, .int .u64 b] 53) = wx at *
  have T2 : Hid (∀ W, Below wx.heap.size wx W → W.cell? ⟨w.heap.size, 0, none⟩ = some (.int .u8 op) ∧ W.cell? ⟨w.heap.size, 1, none⟩ = some (.int .i64 arg) ∧ W.cell? ⟨w.heap.size, 2, none⟩ = some (.int .u8 t) ∧ W.cell? ⟨w.heap.size, 3, none⟩ = some (.int .u64 b)) := Lib.hid (fun W hW => by have e := (hW.block _ (lt_blk b0_)).trans b0_; exact ⟨by rw [cell_blk e]; rfl, by rw [cell_blk e]; rfl, by rw [cell_blk e]; rfl, by rw [cell_blk e]; rfl⟩)
  have BA := Lib.hid hb_
  clear hb_ b0_
  obtain ⟨z0, z1, z2, z3⟩ := T2.out wx (Below.refl _ _)
  have e1 := (BA.out.block _ (lt_blk HC.out)).trans HC.out
  have e2 := (BA.out.block _ (lt_blk HD.out)).trans HD.out
  have x0 : wx.cell? ⟨g1, 0, none⟩ = some (.slice A ns cp) := by rw [cell_blk e1]; rfl
  have x1 : wx.cell? ⟨g1, 1, none⟩ = some (.int .i64 mt) := by rw [cell_blk e1]; rfl
  have x2 : wx.cell? ⟨g1, 2, none⟩ = some (.slice A' nb cp') := by rw [cell_blk e1]; rfl
  have y0 : wx.cell? ⟨g2, 0, none⟩ = some (.slice A2 nl cp2) := by rw [cell_blk e2]; rfl
  have y1 : wx.cell? ⟨g2, 1, none⟩ = some (.int .i64 st) := by rw [cell_blk e2]; rfl
  have y2 : wx.cell? ⟨g2, 2, none⟩ = some (.slice A2' nn cp2') := by rw [cell_blk e2]; rfl
  clear e1 e2 T2
  go_wp2_with fail
  refine (HI.out _).mono ?_
  rintro e w1 ⟨rfl, hb1⟩
  have HW := Lib.hid (BA.out.trans (hb1.mono BA.out.size))
  clear hb1 x0 x1 x2 y0 y1 y2 z0 z1 z2 z3
  go_wp2_with fail
  go_ret
  exact ⟨rfl, HW.out⟩
set_option maxRecDepth 100000 in
set_option maxHeartbeats 1000000 in
theorem index_ins (ns nl nb nn : Nat) (mt st : Int) (p q p2 q2 : Slc) (g1 g2 : Nat) (h1 : ns ≤ 4000000) (h2 : nl ≤ 4000000) (l : List Ins) (n : Nat) (hn : n = l.length) (hl : n ≤ 4000000) (hv : ∀ i, i < n → 0 ≤ (l.getD i default).l.b) (r : Slc) (B : Nat) (w : World) (hi : InsAt w B r l) (hB : B ≤ w.heap.size)
    (hc : w.heap[g1]? = some (.cells #[.slice p.1 ns p.2, .int .i64 mt, .slice q.1 nb q.2] 25 (0, 0))) (hd : w.heap[g2]? = some (.cells #[.slice p2.1 nl p2.2, .int .i64 st, .slice q2.1 nn q2.2] 57 (0, 0))) :
    Calls Try.prog 87 #[.slice r.1 n r.2, .func (.func 77) #[] #[.pointer (some ⟨g1, 0, none⟩), .pointer (some ⟨g2, 0, none⟩)]] w fun e w' => (∃ k : Int, e = .returned (.int .i64 k) ∧ l.all (inOk ns nl) = decide (k < 0)) ∧ Below w.heap.size w w' := by
  have HC : Hid (∀ W, Below w.heap.size w W → ∀ i : Ins, 0 ≤ i.l.b → Calls Try.prog 77 #[inv i, .pointer (some ⟨g1, 0, none⟩), .pointer (some ⟨g2, 0, none⟩)] W fun e w' => e = .returned (.bool (!inOk ns nl i)) ∧ Below W.heap.size W w') := Lib.hid (fun W hW i h => notin_any ns nl nb nn mt st p q p2 q2 g1 g2 i h h1 h2 W ((hW.block _ (lt_blk hc)).trans hc) ((hW.block _ (lt_blk hd)).trans hd))
  clear hc hd
  obtain ⟨A, c⟩ := r
  have H1 := Lib.hid hi; have N1 := Lib.hid hn; have HV := Lib.hid hv
  clear hi hn hv
  generalize inOk ns nl = f at *
  go_enter Try.func87, Try.ntmps87
  go_wp2_with fail
  go_loopw [8] (fun iv wr => ∃ k : Nat, k ≤ n ∧ iv = .int .i64 k ∧ (∀ i, i < k → f (l.getD i default) = true) ∧ Below w.heap.size w wr) (fun iv _ => n - (intOf iv).toNat)
  case atStart => exact ⟨0, by omega, rfl, fun i hi => by omega, Below.refl _ _⟩
  case round =>
    obtain ⟨k, hk, rfl, hall, hb⟩ := hrel
    have Hall := Lib.hid hall; have Hb := Lib.hid hb
    clear hall hb
    by_cases hlt : k < n
    · obtain ⟨b, o, rfl, hb1, x0, x1, x2, x3⟩ := InsAt.cells H1.out (show k < l.length by rw [← N1.out]; exact hlt)
      have y0 := (Hb.out.cell (p := ⟨b, _, none⟩) (Nat.lt_of_lt_of_le hb1 hB)).trans x0
      have y1 := (Hb.out.cell (p := ⟨b, _, none⟩) (Nat.lt_of_lt_of_le hb1 hB)).trans x1
      have y2 := (Hb.out.cell (p := ⟨b, _, none⟩) (Nat.lt_of_lt_of_le hb1 hB)).trans x2
      have y3 := (Hb.out.cell (p := ⟨b, _, none⟩) (Nat.lt_of_lt_of_le hb1 hB)).trans x3
      have HC1 := Lib.hid (HC.out wr Hb.out (l.getD k default) (HV.out k hlt))
      have HA1 : Hid (f (l.getD k default) = true → ∀ i, i < k + 1 → f (l.getD i default) = true) := Lib.hid (fun h i hi => by
        by_cases e : i = k
        · rw [e]; exact h
        · exact Hall.out i (by omega))
      have HF1 : Hid (f (l.getD k default) = false → l.all f = false) := Lib.hid (fun h => all_not (by rw [← N1.out]; exact hlt) h)
      clear x0 x1 x2 x3
      unfold inv at HC1
      generalize f (l.getD k default) = r at *
      generalize l.getD k default = a at *
      obtain ⟨op, arg, t, bb⟩ := a
      dsimp only at *
      go_wp2_with fail
      refine HC1.out.mono ?_
      rintro e w1 ⟨rfl, hb1⟩
      have H2 := Lib.hid (Hb.out.trans (hb1.mono Hb.out.size))
      clear hb1 y0 y1 y2 y3
      cases r
      · have HN := Lib.hid (HF1.out rfl)
        go_wp2_with fail
        go_ret
        exact ⟨⟨k, rfl, by rw [HN.out, decide_eq_false (by omega)]⟩, H2.out⟩
      · go_wp2_with fail
        go_roundw
        case rel => exact ⟨k + 1, by omega, by go_num, HA1.out (by trivial), H2.out⟩
        case measure => simp [intOf]; omega
    · obtain rfl : k = n := by omega
      have HN : Hid (l.all f = true) := Lib.hid (all_of (by rw [← N1.out]; exact Hall.out))
      go_wp2_with fail
      go_ret
      exact ⟨⟨-1, rfl, by rw [HN.out, decide_eq_true (by omega)]⟩, Hb.out⟩
set_option maxRecDepth 100000 in
theorem contains_ins (ns nl nb nn : Nat) (mt st : Int) (p q p2 q2 : Slc) (g1 g2 : Nat) (h1 : ns ≤ 4000000) (h2 : nl ≤ 4000000) (l : List Ins) (n : Nat) (hn : n = l.length) (hl : n ≤ 4000000) (hv : ∀ i, i < n → 0 ≤ (l.getD i default).l.b) (r : Slc) (B : Nat) (w : World) (hi : InsAt w B r l) (hB : B ≤ w.heap.size)
    (hc : w.heap[g1]? = some (.cells #[.slice p.1 ns p.2, .int .i64 mt, .slice q.1 nb q.2] 25 (0, 0))) (hd : w.heap[g2]? = some (.cells #[.slice p2.1 nl p2.2, .int .i64 st, .slice q2.1 nn q2.2] 57 (0, 0))) :
    Calls Try.prog 76 #[.slice r.1 n r.2, .func (.func 77) #[] #[.pointer (some ⟨g1, 0, none⟩), .pointer (some ⟨g2, 0, none⟩)]] w fun e w' => e = .returned (.bool (!l.all (inOk ns nl))) ∧ Below w.heap.size w w' := by
  have Hi := Lib.hid (index_ins ns nl nb nn mt st p q p2 q2 g1 g2 h1 h2 l n hn hl hv r B w hi hB hc hd)
  clear hi hv hn hc hd
  obtain ⟨A, c⟩ := r
  dsimp only at *
  generalize l.all (inOk ns nl) = q at *
  go_enter Try.func76, Try.ntmps76
  go_wp2_with fail
  refine Hi.out.mono ?_
  rintro e w1 ⟨⟨k, rfl, hk⟩, hb⟩
  have HB := Lib.hid hb
  have HK := Lib.hid hk
  clear hb hk Hi
  go_wp2_with fail
  go_ret
  exact ⟨ret_bool (by rw [HK.out]; by_cases h : k < 0 <;> simp [h] <;> omega), HB.out⟩
end Go.Proofs.Ytbmpjphemjponaa
