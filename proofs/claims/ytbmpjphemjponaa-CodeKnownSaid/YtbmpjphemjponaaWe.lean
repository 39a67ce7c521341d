/- code.rows, code.result. -/
import Derived.Test.YtbmpjphemjponaaWa
import Derived.Test.YtbmpjphemjponaaBx
set_option linter.unusedSimpArgs false
set_option linter.unusedVariables false
namespace Go.Proofs.Ytbmpjphemjponaa
open Go.RowKit

def rowA : Array Value := #[.int .u8 3, .int .u8 4, .int .u8 2, .int .u8 2, .int .u8 5, .int .u8 6, .int .u8 0, .int .u8 2, .int .u8 7, .int .u8 10, .int .u8 1, .int .u8 2, .int .u8 7, .int .u8 10, .int .u8 3, .int .u8 2, .int .u8 11, .int .u8 15, .int .u8 1, .int .u8 1, .int .u8 11, .int .u8 14, .int .u8 3, .int .u8 3, .int .u8 16, .int .u8 16, .int .u8 1, .int .u8 1, .int .u8 16, .int .u8 16, .int .u8 3, .int .u8 3, .int .u8 17, .int .u8 17, .int .u8 2, .int .u8 2, .int .u8 18, .int .u8 18, .int .u8 3, .int .u8 1, .int .u8 19, .int .u8 19, .int .u8 1, .int .u8 3]
theorem rowA_size : rowA.size = 44 := rfl
set_option maxRecDepth 100000 in
set_option maxHeartbeats 1000000 in
theorem rows_any (w : World) : Calls Try.prog 96 #[] w fun e w' => e = .returned (.agg rowA) ∧ Below w.heap.size w w' := by
  have HA : Hid (rowA = rowA) := Lib.hid rfl
  have h1 : rowA.all (·.oneCell') = true := by kernel_rfl
  go_enter Try.func96, Try.ntmps96
  go_upto_region 1 with (fail)
  obtain ⟨zs, hzs, hz⟩ : ∃ zs : Array Value, zs = #[.int .u8 0, .int .u8 0, .int .u8 0, .int .u8 0, .int .u8 0, .int .u8 0, .int .u8 0, .int .u8 0, .int .u8 0, .int .u8 0, .int .u8 0, .int .u8 0, .int .u8 0, .int .u8 0, .int .u8 0, .int .u8 0, .int .u8 0, .int .u8 0, .int .u8 0, .int .u8 0, .int .u8 0, .int .u8 0, .int .u8 0, .int .u8 0, .int .u8 0, .int .u8 0, .int .u8 0, .int .u8 0, .int .u8 0, .int .u8 0, .int .u8 0, .int .u8 0, .int .u8 0, .int .u8 0, .int .u8 0, .int .u8 0, .int .u8 0, .int .u8 0, .int .u8 0, .int .u8 0, .int .u8 0, .int .u8 0, .int .u8 0, .int .u8 0] ∧ zs.size = 44 := ⟨_, rfl, rfl⟩
  rw [← hzs]
  clear hzs
  have hb := below_alloc w (.cells zs 123)
  have hg := heap_alloc_new w (.cells zs 123)
  generalize w.alloc (.cells zs 123) = w0 at *
  have Hb := Lib.hid hb; have Hg := Lib.hid hg; have Hz := Lib.hid hz
  clear hb hg hz
  go_wp2_with (refine wpList_store_row (o := ⟨none, .store 123 (.tmp 0) (.tmp 12), _, _, _, _⟩) rfl _ _ _ rfl w.heap.size rowA rfl rfl _ zs Hg.out (by rw [rowA_size]; kernel_rfl) (by rw [rowA_size, Hz.out]) h1 ?_)
  refine bodyPost_ret (results_cell_row rfl _ _ w.heap.size 123 rowA (0, 0) _ rfl (setRow_heap _ _ _ rowA _ (0, 0) Hg.out) Try.underlying123 rfl (by rw [rowA_size]; kernel_rfl)) rfl ⟨rfl, ?_⟩
  exact below_setRow Hb.out (Nat.le_refl _) _
def rowK (k : Nat) : Int × Int × Int × Int := rowsL.getD k (0, 0, 0, 0)
theorem row_at (k : Nat) (hk : k < 11) (w : World) : (Instr.index 123 (.agg rowA) (.int .i64 k)).run Try.prog w = .ok (.agg #[.int .u8 (rowK k).1, .int .u8 (rowK k).2.1, .int .u8 (rowK k).2.2.1, .int .u8 (rowK k).2.2.2]) w := by
  have : k = 0 ∨ k = 1 ∨ k = 2 ∨ k = 3 ∨ k = 4 ∨ k = 5 ∨ k = 6 ∨ k = 7 ∨ k = 8 ∨ k = 9 ∨ k = 10 := by omega
  rcases this with h | h | h | h | h | h | h | h | h | h | h <;> subst h <;> (show _ = _) <;> kernel_rfl
theorem resF_step (x t : Int) (k : Nat) (hk : k < 11) : resF x t (rowsL.drop k) = if rowOk x t (rowK k) then (rowK k).2.2.2 else resF x t (rowsL.drop (k + 1)) := by
  have : k = 0 ∨ k = 1 ∨ k = 2 ∨ k = 3 ∨ k = 4 ∨ k = 5 ∨ k = 6 ∨ k = 7 ∨ k = 8 ∨ k = 9 ∨ k = 10 := by omega
  rcases this with h | h | h | h | h | h | h | h | h | h | h <;> subst h <;> rfl
set_option maxRecDepth 100000 in
set_option maxHeartbeats 1000000 in
theorem result_any (x t : Int) (w : World) : Calls Try.prog 90 #[.int .u8 x, .int .u8 t] w fun e w' => e = .returned (.int .u8 (resT x t)) ∧ Below w.heap.size w w' := by
  have HT : Hid (resT x t = resF x t (rowsL.drop 0)) := Lib.hid rfl
  have HS := Lib.hid (resF_step x t)
  have HA := Lib.hid row_at
  have HR := Lib.hid rows_any
  generalize resT x t = res at *
  generalize rowA = ra at *
  go_enter Try.func90, Try.ntmps90
  go_wp2_with fail
  refine (HR.out _).mono ?_
  rintro e w1 ⟨rfl, hb⟩
  have Hb := Lib.hid hb
  clear hb
  go_wp2_with fail
  go_loopw [8] (fun iv wr => ∃ k : Nat, k ≤ 11 ∧ iv = .int .i64 k ∧ res = resF x t (rowsL.drop k) ∧ Below w.heap.size w wr) (fun iv _ => 11 - (intOf iv).toNat)
  case atStart => exact ⟨0, by omega, rfl, HT.out, Hb.out⟩
  case round =>
    obtain ⟨k, hk, rfl, hr, hb⟩ := hrel
    have Hr := Lib.hid hr; have Hb := Lib.hid hb
    clear hr hb
    by_cases hlt : k < 11
    · have ha := HA.out k hlt
      have H1 := Lib.hid (Hr.out.trans (HS.out k hlt))
      have H2 : Hid (rowOk x t (rowK k) = (decide ((rowK k).1 ≤ x) && (decide (x ≤ (rowK k).2.1) && (decide ((rowK k).2.2.1 = 0) || decide ((rowK k).2.2.1 = t))))) := Lib.hid rfl
      generalize rowOk x t (rowK k) = ok at *
      generalize rowK k = r at *
      obtain ⟨r1, r2, r3, r4⟩ := r
      dsimp only at *
      generalize he0 : decide (r1 ≤ x) = e0 at *
      generalize he1 : decide (x ≤ r2) = e1 at *
      generalize he2 : decide (r3 = 0) = e2 at *
      have f2 : (r3 == 0) = e2 := he2
      generalize he3 : decide (r3 = t) = e3 at *
      have f3 : (r3 == t) = e3 := he3
      clear he2 he3
      have HN1 : Hid ((e0 && (e1 && (e2 || e3))) = true → res = r4) := Lib.hid (fun h => by rw [H1.out, H2.out, h]; rfl)
      have HN0 : Hid ((e0 && (e1 && (e2 || e3))) = false → res = resF x t (rowsL.drop (k + 1))) := Lib.hid (fun h => by rw [H1.out, H2.out, h]; rfl)
      clear H1 H2
      cases e0 <;> cases e1 <;> cases e2 <;> cases e3
      all_goals
        go_wp2_with fail
        first
          | (go_ret; exact ⟨ret_int (HN1.out rfl).symm, (Hb.out.alloc Hb.out.size _)⟩)
          | (go_roundw
             case rel => exact ⟨k + 1, by omega, by go_num, HN0.out rfl, (Hb.out.alloc Hb.out.size _)⟩
             case measure => simp [intOf] <;> omega)
    · obtain rfl : k = 11 := by omega
      go_wp2_with fail
      go_ret
      exact ⟨ret_int Hr.out.symm, Hb.out⟩
end Go.Proofs.Ytbmpjphemjponaa
