/- code.instr, code.node; instructions asked one by one. -/
import Derived.Test.YtbmpjphemjponaaWa
import Derived.Test.YtbmpjphemjponaaBx
set_option linter.unusedSimpArgs false
set_option linter.unusedVariables false
namespace Go.Proofs.Ytbmpjphemjponaa
open Go.RowKit

def inv (i : Ins) : Value := .agg #[.int .u8 i.op, .int .i64 i.arg, .int .u8 i.l.t, .int .u64 i.l.b]
def cav (p q : Slc) (n m : Nat) (mt : Int) : Value := .agg #[.slice p.1 n p.2, .int .i64 mt, .slice q.1 m q.2]
set_option maxRecDepth 100000 in
set_option maxHeartbeats 1000000 in
theorem instr_any (ns nl nb nn : Nat) (mt st : Int) (p q p2 q2 : Slc) (i : Ins) (hb : 0 ≤ i.l.b) (h1 : ns ≤ 4000000) (h2 : nl ≤ 4000000) (w : World) :
    Calls Try.prog 78 #[cav p q ns nb mt, cav p2 q2 nl nn st, inv i] w fun e w' => e = .returned (.bool (inOk ns nl i)) ∧ Below w.heap.size w w' := by
  have H : Hid (inOk ns nl i = if i.op = 1 then decide (i.arg = 0) && vOk i.l else if i.op = 30 then wi i.arg nl && l0 i.l else if i.op = 31 then wi i.arg ns && l0 i.l
      else if isOp i.op then decide (i.arg = 0) && l0 i.l else false) := Lib.hid rfl
  have HV := Lib.hid (valid_any i.l hb)
  have HO := Lib.hid (operator_any i.op)
  have HL : Hid (l0 i.l = (decide (i.l.t = 0) && decide (i.l.b = 0))) := Lib.hid rfl
  have HW1 := Lib.hid (within_any i.arg nl); have HW2 := Lib.hid (within_any i.arg ns)
  unfold inv cav
  unfold vav at HV
  generalize inOk ns nl i = r at *
  generalize vOk i.l = r1 at *
  generalize l0 i.l = r2 at *
  generalize isOp i.op = r3 at *
  generalize wi i.arg nl = r4 at *
  generalize wi i.arg ns = r5 at *
  obtain ⟨op, arg, t, b⟩ := i
  obtain ⟨A, cp⟩ := p; obtain ⟨A', cp'⟩ := q; obtain ⟨A2, cp2⟩ := p2; obtain ⟨A2', cp2'⟩ := q2
  dsimp only at *
  generalize he0 : decide (arg = 0) = e0 at *
  have f0 : (arg == 0) = e0 := he0
  generalize he1 : decide (t = 0) = e1 at *
  have f1 : (t == 0) = e1 := he1
  generalize he2 : decide (b = 0) = e2 at *
  have f2 : (b == 0) = e2 := he2
  clear he0 he1 he2
  go_enter Try.func78, Try.ntmps78
  go_upto_region 1 with (fail)
  obtain ⟨b0_, b1_, b2_, hb_⟩ := boxes3 w (.cells #[.slice A ns cp, .int .i64 mt, .slice A' nb cp'] 25) (.cells #[.slice A2 nl cp2, .int .i64 st, .slice A2' nn cp2'] 57) (.cells #[.int .u8 op, .int .i64 arg, .int .u8 t, .int .u64 b] 53)
  generalize ((w.alloc (.cells #[.slice A ns cp, .int .i64 mt, .slice A' nb cp'] 25)).alloc (.cells #[.slice A2 nl cp2, .int .i64 st, .slice A2' nn cp2'] 57)).alloc (.cells #[.int .u8 op, .int .i64 arg, .int .u8 t, .int .u64 b] 53) = wx at *
  have T0 : Hid (∀ W, Below wx.heap.size wx W → W.cell? ⟨w.heap.size, 0, none⟩ = some (.slice A ns cp) ∧ W.cell? ⟨w.heap.size, 1, none⟩ = some (.int .i64 mt) ∧ W.cell? ⟨w.heap.size, 2, none⟩ = some (.slice A' nb cp')) := Lib.hid (fun W hW => by have e := (hW.block _ (lt_blk b0_)).trans b0_; exact ⟨by rw [cell_blk e]; rfl, by rw [cell_blk e]; rfl, by rw [cell_blk e]; rfl⟩)
  have T1 : Hid (∀ W, Below wx.heap.size wx W → W.cell? ⟨w.heap.size + 1, 0, none⟩ = some (.slice A2 nl cp2) ∧ W.cell? ⟨w.heap.size + 1, 1, none⟩ = some (.int .i64 st) ∧ W.cell? ⟨w.heap.size + 1, 2, none⟩ = some (.slice A2' nn cp2')) := Lib.hid (fun W hW => by have e := (hW.block _ (lt_blk b1_)).trans b1_; exact ⟨by rw [cell_blk e]; rfl, by rw [cell_blk e]; rfl, by rw [cell_blk e]; rfl⟩)
  have T2 : Hid (∀ W, Below wx.heap.size wx W → W.cell? ⟨w.heap.size + 1 + 1, 0, none⟩ = some (.int .u8 op) ∧ W.cell? ⟨w.heap.size + 1 + 1, 1, none⟩ = some (.int .i64 arg) ∧ W.cell? ⟨w.heap.size + 1 + 1, 2, none⟩ = some (.int .u8 t) ∧ W.cell? ⟨w.heap.size + 1 + 1, 3, none⟩ = some (.int .u64 b)) := Lib.hid (fun W hW => by have e := (hW.block _ (lt_blk b2_)).trans b2_; exact ⟨by rw [cell_blk e]; rfl, by rw [cell_blk e]; rfl, by rw [cell_blk e]; rfl, by rw [cell_blk e]; rfl⟩)
  have BA := Lib.hid hb_
  clear hb_ b0_ b1_ b2_
  have HL2 : Hid (r2 = (e1 && e2)) := HL
  clear HL
  cases e1 <;> cases e2
  all_goals
    apply wp_region_relH (H := []) 9 [(Sum.inl _ : TT), (Sum.inl _ : TT), (Sum.inl _ : TT), (Sum.inl _ : TT), (Sum.inl _ : TT), (Sum.inl _ : TT), (Sum.inl _ : TT), (Sum.inl _ : TT), (Sum.inl _ : TT)] (by kernel_rfl) (by kernel_rfl) (fun _ _ _ _ _ h => h) rfl
    simp only [List.take_succ_cons, List.take_zero, List.drop_succ_cons, List.drop_zero]
    iterate 9 (apply rel_isS; (intro W hW hf; obtain ⟨u0, u1, u2, u3⟩ := T2.out W hW; go_simp; first | exact ⟨StayS.refl _ _, rfl⟩ | rfl); simp only [Act.put, List.setIfInBounds_toArray, List.set_cons_succ, List.set_cons_zero])
    refine rel_endS ?_
    intro W hW hf
    try simp only [Act.put, List.setIfInBounds_toArray, List.set_cons_succ, List.set_cons_zero]
    refine wpList_nil ?_
    have HW := Lib.hid (BA.out.trans (hW.mono BA.out.size))
    obtain ⟨u0, u1, u2, u3⟩ := T2.out W hW
    obtain ⟨x0, -, -⟩ := T0.out W hW
    obtain ⟨y0, -, -⟩ := T1.out W hW
    clear hW hf T0 T1 T2
    by_cases g1 : op = 1
    · subst g1
      have HN : Hid (r = (e0 && r1)) := Lib.hid (by rw [H.out]; rfl)
      clear H HO HW1 HW2
      go_wp2_with fail
      refine (HV.out _).mono ?_
      rintro e w1 ⟨rfl, hb1⟩
      have HW := Lib.hid (HW.out.trans (hb1.mono HW.out.size))
      clear hb1 u0 u1 u2 u3 x0 y0
      cases e0 <;> cases r1
      all_goals
        go_wp2_with fail
        go_ret
        exact ⟨ret_bool HN.out.symm, HW.out⟩
    by_cases g2 : op = 30
    · subst g2
      have HN : Hid (r = (r4 && r2)) := Lib.hid (by rw [H.out]; rfl)
      clear H HO HV HW2
      go_wp2_with fail
      refine (HW1.out _).mono ?_
      rintro e w1 ⟨rfl, rfl⟩
      clear u0 u1 u2 u3 x0 y0
      cases r4
      all_goals
        go_wp2_with fail
        go_ret
        exact ⟨ret_bool (by rw [HN.out, HL2.out]; rfl), HW.out⟩
    by_cases g3 : op = 31
    · subst g3
      have HN : Hid (r = (r5 && r2)) := Lib.hid (by rw [H.out]; rfl)
      clear H HO HV HW1
      go_wp2_with fail
      refine (HW2.out _).mono ?_
      rintro e w1 ⟨rfl, rfl⟩
      clear u0 u1 u2 u3 x0 y0
      cases r5
      all_goals
        go_wp2_with fail
        go_ret
        exact ⟨ret_bool (by rw [HN.out, HL2.out]; rfl), HW.out⟩
    have HN : Hid (r = if r3 then e0 && r2 else false) := Lib.hid (by rw [H.out, if_neg g1, if_neg g2, if_neg g3])
    have d1 : (op == 1) = false := by simpa using g1
    have d2 : (op == 30) = false := by simpa using g2
    have d3 : (op == 31) = false := by simpa using g3
    clear H HV HW1 HW2 g1 g2 g3
    go_wp2_with fail
    refine (HO.out _).mono ?_
    rintro e w1 ⟨rfl, rfl⟩
    clear u0 u1 u2 u3 x0 y0
    cases r3 <;> cases e0
    all_goals
      go_wp2_with fail
      go_ret
      exact ⟨ret_bool (by rw [HN.out, HL2.out]; rfl), HW.out⟩
end Go.Proofs.Ytbmpjphemjponaa
