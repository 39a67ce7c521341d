/- names of tenants: tenant.named, assizeref24.Name (printed by gen_named24.py). -/
import Derived.Test.YtkdkpnidiehdfaaDoorZp
import Derived.Test.YtkdkpnidiehdfaaDoorConv
set_option linter.unusedSimpArgs false
set_option linter.unusedVariables false
namespace Go.Proofs.YtkdkpnidiehdfaaDoor
open Go.RowKit

theorem run_index_str {P : Program} (w : World) (t : TypeId) (ht : P.underlying t = some .string) (l : List UInt8) (k : Nat) (h : k < l.length) : (Instr.index t (.string (str l)) (.int .i64 (k : Int))).run P w = .ok (.int .u8 ((l.getD k 0).toNat : Int)) w := by
  have h1 := run_index_string (P := P) w t (str l) .i64 (k : Int) ht
  rw [h1, dif_pos ⟨by omega, by rw [str_size]; omega⟩]
  have : (str l)[(k : Int).toNat]'(by rw [str_size]; omega) = l.getD k 0 := by
    show l.toArray[k]'(by simpa using h) = _
    rw [List.getElem_toArray]
    simp [List.getD_eq_getElem?_getD, h]
  rw [this]
theorem okC_cases {n : Nat} (y : Bool) (h : ((decide (97 ≤ n) && decide (n ≤ 122)) || (decide (48 ≤ n) && decide (n ≤ 57)) || decide (n = 45)) = y) : (n = 45 ∧ y = true) ∨ (48 ≤ n ∧ n ≤ 57 ∧ y = true) ∨ (97 ≤ n ∧ n ≤ 122 ∧ y = true) ∨ (n < 45 ∧ y = false) ∨ (46 ≤ n ∧ n ≤ 47 ∧ y = false) ∨ (58 ≤ n ∧ n ≤ 96 ∧ y = false) ∨ (123 ≤ n ∧ y = false) := by
  subst h
  simp only [Bool.or_eq_true, Bool.and_eq_true, decide_eq_true_eq, Bool.or_eq_false_iff, Bool.and_eq_false_iff, decide_eq_false_iff_not]
  omega
theorem okName_all {l : List UInt8} (h : ¬ l.length < 1) (h2 : ¬ 16 < l.length) : okName l = l.all okC := by
  unfold okName
  rw [decide_eq_true (by omega), decide_eq_true (by omega)]; simp
theorem okName_len {l : List UInt8} (h : l.length < 1 ∨ 16 < l.length) : okName l = false := by
  unfold okName
  rcases h with h | h
  · rw [decide_eq_false (by omega)]; simp
  · rw [decide_eq_false (p := l.length ≤ 16) (by omega)]; simp

set_option maxRecDepth 100000 in
set_option maxHeartbeats 4000000 in
theorem named_any (l : List UInt8) (w : World) : Calls Tryd.prog 68 #[.string (str l)] w fun e w' => e = .returned (.bool (okName l)) ∧ w' = w := by
  have hs := str_size l
  have HIX := Lib.hid (fun k h => run_index_str (P := Tryd.prog) w 9 Tryd.underlying9 l k h)
  by_cases h1 : l.length < 1
  · have HE := Lib.hid (okName_len (.inl h1))
    go_enter Tryd.func68, Tryd.ntmps68
    go_wp2_with fail
    go_ret
    exact ⟨ret_bool HE.out.symm, rfl⟩
  by_cases h2 : 16 < l.length
  · have HE := Lib.hid (okName_len (.inr h2))
    go_enter Tryd.func68, Tryd.ntmps68
    go_wp2_with fail
    go_ret
    exact ⟨ret_bool HE.out.symm, rfl⟩
  have HE := Lib.hid (okName_all h1 h2)
  go_enter Tryd.func68, Tryd.ntmps68
  go_wp2_with fail
  go_loopw [3, 4, 15] (fun _ _ iv wr => ∃ k : Nat, k ≤ l.length ∧ iv = .int .i64 k ∧ (l.take k).all okC = true ∧ w = wr) (fun _ _ iv _ => l.length - (RowKit.intOf iv).toNat)
  case atStart => exact ⟨0, by omega, rfl, by simp, rfl⟩
  case round =>
    obtain ⟨k, hk, rfl, hall, rfl⟩ := hrel
    have HALL := Lib.hid hall
    clear hall
    by_cases hlt : k < l.length
    · have hix := HIX.out k hlt
      have Htk : Hid ((l.take (k + 1)).all okC = okC (l.getD k 0)) := Lib.hid (by
        rw [okName_take _ _ hlt, HALL.out]; simp)
      have Hbad : Hid (okC (l.getD k 0) = false → l.all okC = false) := Lib.hid (fun hz => by
        rw [List.all_eq_false]
        exact ⟨l.getD k 0, by simp [List.getD_eq_getElem?_getD, hlt], by rw [hz]; decide⟩)
      have hz : ((decide (97 ≤ (l.getD k 0).toNat) && decide ((l.getD k 0).toNat ≤ 122)) || (decide (48 ≤ (l.getD k 0).toNat) && decide ((l.getD k 0).toNat ≤ 57)) || decide ((l.getD k 0).toNat = 45)) = okC (l.getD k 0) := rfl
      generalize okC (l.getD k 0) = y at *
      generalize (l.getD k 0).toNat = n at *
      rcases okC_cases _ hz with ⟨rfl, rfl⟩ | ⟨h, h', rfl⟩ | ⟨h, h', rfl⟩ | ⟨h, rfl⟩ | ⟨h, h', rfl⟩ | ⟨h, h', rfl⟩ | ⟨h, rfl⟩
      · skip
        go_wp2_with fail
        go_roundw
        case rel => exact ⟨k + 1, by omega, by go_num, Htk.out, trivial⟩
        case measure => simp [RowKit.intOf]; omega
      · skip
        have f0 : (n : Int) < 97 := by omega
        have f1 : ¬ 122 < (n : Int) := by omega
        have f2 : ¬ (n : Int) < 48 := by omega
        have f3 : ¬ 57 < (n : Int) := by omega
        have f4 : ((n : Int) != 45) = true := by rw [bne_iff_ne]; omega
        go_wp2_with fail
        go_roundw
        case rel => exact ⟨k + 1, by omega, by go_num, Htk.out, trivial⟩
        case measure => simp [RowKit.intOf]; omega
      · skip
        have f0 : ¬ (n : Int) < 97 := by omega
        have f1 : ¬ 122 < (n : Int) := by omega
        have f2 : ¬ (n : Int) < 48 := by omega
        have f3 : 57 < (n : Int) := by omega
        have f4 : ((n : Int) != 45) = true := by rw [bne_iff_ne]; omega
        go_wp2_with fail
        go_roundw
        case rel => exact ⟨k + 1, by omega, by go_num, Htk.out, trivial⟩
        case measure => simp [RowKit.intOf]; omega
      · skip
        have f0 : (n : Int) < 97 := by omega
        have f1 : ¬ 122 < (n : Int) := by omega
        have f2 : (n : Int) < 48 := by omega
        have f3 : ¬ 57 < (n : Int) := by omega
        have f4 : ((n : Int) != 45) = true := by rw [bne_iff_ne]; omega
        have Hb := Lib.hid (Hbad.out rfl)
        go_wp2_with fail
        go_ret
        exact ⟨ret_bool (by rw [HE.out, Hb.out]), rfl⟩
      · skip
        have f0 : (n : Int) < 97 := by omega
        have f1 : ¬ 122 < (n : Int) := by omega
        have f2 : (n : Int) < 48 := by omega
        have f3 : ¬ 57 < (n : Int) := by omega
        have f4 : ((n : Int) != 45) = true := by rw [bne_iff_ne]; omega
        have Hb := Lib.hid (Hbad.out rfl)
        go_wp2_with fail
        go_ret
        exact ⟨ret_bool (by rw [HE.out, Hb.out]), rfl⟩
      · skip
        have f0 : (n : Int) < 97 := by omega
        have f1 : ¬ 122 < (n : Int) := by omega
        have f2 : ¬ (n : Int) < 48 := by omega
        have f3 : 57 < (n : Int) := by omega
        have f4 : ((n : Int) != 45) = true := by rw [bne_iff_ne]; omega
        have Hb := Lib.hid (Hbad.out rfl)
        go_wp2_with fail
        go_ret
        exact ⟨ret_bool (by rw [HE.out, Hb.out]), rfl⟩
      · skip
        have f0 : ¬ (n : Int) < 97 := by omega
        have f1 : 122 < (n : Int) := by omega
        have f2 : ¬ (n : Int) < 48 := by omega
        have f3 : 57 < (n : Int) := by omega
        have f4 : ((n : Int) != 45) = true := by rw [bne_iff_ne]; omega
        have Hb := Lib.hid (Hbad.out rfl)
        go_wp2_with fail
        go_ret
        exact ⟨ret_bool (by rw [HE.out, Hb.out]), rfl⟩
    · obtain rfl : k = l.length := by omega
      have Hfin : Hid (l.all okC = true) := Lib.hid (by have := HALL.out; rwa [List.take_length] at this)
      go_wp2_with fail
      go_ret
      exact ⟨ret_bool (by rw [HE.out, Hfin.out]), rfl⟩

set_option maxRecDepth 100000 in
set_option maxHeartbeats 4000000 in
theorem refname_any (l : List UInt8) (hl : l.length ≤ 9223372036854775807) (w : World) : Calls Tryd.prog 69 #[.string (str l)] w fun e w' => e = .returned (.bool (okName l)) ∧ w' = w := by
  have hs := str_size l
  have HIX := Lib.hid (fun k h => run_index_str (P := Tryd.prog) w 9 Tryd.underlying9 l k h)
  go_enter Tryd.func69, Tryd.ntmps69
  go_wp2_with fail
  go_loopw [4, 3] (fun _ iv wr => ∃ k : Nat, k ≤ l.length ∧ iv = .int .i64 k ∧ (l.take k).all okC = true ∧ w = wr) (fun _ iv _ => l.length - (RowKit.intOf iv).toNat)
  case atStart => exact ⟨0, by omega, rfl, by simp, rfl⟩
  case round =>
    obtain ⟨k, hk, rfl, hall, rfl⟩ := hrel
    have HALL := Lib.hid hall
    clear hall
    by_cases hlt : k < l.length
    · have hix := HIX.out k hlt
      have Htk : Hid ((l.take (k + 1)).all okC = okC (l.getD k 0)) := Lib.hid (by
        rw [okName_take _ _ hlt, HALL.out]; simp)
      have Hbad : Hid (okC (l.getD k 0) = false → l.all okC = false) := Lib.hid (fun hz => by
        rw [List.all_eq_false]
        exact ⟨l.getD k 0, by simp [List.getD_eq_getElem?_getD, hlt], by rw [hz]; decide⟩)
      have hz : ((decide (97 ≤ (l.getD k 0).toNat) && decide ((l.getD k 0).toNat ≤ 122)) || (decide (48 ≤ (l.getD k 0).toNat) && decide ((l.getD k 0).toNat ≤ 57)) || decide ((l.getD k 0).toNat = 45)) = okC (l.getD k 0) := rfl
      generalize okC (l.getD k 0) = y at *
      generalize (l.getD k 0).toNat = n at *
      rcases okC_cases _ hz with ⟨rfl, rfl⟩ | ⟨h, h', rfl⟩ | ⟨h, h', rfl⟩ | ⟨h, rfl⟩ | ⟨h, h', rfl⟩ | ⟨h, h', rfl⟩ | ⟨h, rfl⟩
      · skip
        go_wp2_with fail
        go_roundw
        case rel => exact ⟨k + 1, by omega, by go_num, Htk.out, trivial⟩
        case measure => simp [RowKit.intOf]; omega
      · skip
        have f0 : ¬ 97 ≤ (n : Int) := by omega
        have f1 : (n : Int) ≤ 122 := by omega
        have f2 : 48 ≤ (n : Int) := by omega
        have f3 : (n : Int) ≤ 57 := by omega
        have f4 : ((n : Int) == 45) = false := by rw [beq_eq_false_iff_ne]; omega
        go_wp2_with fail
        go_roundw
        case rel => exact ⟨k + 1, by omega, by go_num, Htk.out, trivial⟩
        case measure => simp [RowKit.intOf]; omega
      · skip
        have f0 : 97 ≤ (n : Int) := by omega
        have f1 : (n : Int) ≤ 122 := by omega
        have f2 : 48 ≤ (n : Int) := by omega
        have f3 : ¬ (n : Int) ≤ 57 := by omega
        have f4 : ((n : Int) == 45) = false := by rw [beq_eq_false_iff_ne]; omega
        go_wp2_with fail
        go_roundw
        case rel => exact ⟨k + 1, by omega, by go_num, Htk.out, trivial⟩
        case measure => simp [RowKit.intOf]; omega
      · skip
        have f0 : ¬ 97 ≤ (n : Int) := by omega
        have f1 : (n : Int) ≤ 122 := by omega
        have f2 : ¬ 48 ≤ (n : Int) := by omega
        have f3 : (n : Int) ≤ 57 := by omega
        have f4 : ((n : Int) == 45) = false := by rw [beq_eq_false_iff_ne]; omega
        have Hb := Lib.hid (by rw [okName, Hbad.out rfl]; simp : okName l = false)
        go_wp2_with fail
        go_ret
        exact ⟨ret_bool (by rw [Hb.out]), rfl⟩
      · skip
        have f0 : ¬ 97 ≤ (n : Int) := by omega
        have f1 : (n : Int) ≤ 122 := by omega
        have f2 : ¬ 48 ≤ (n : Int) := by omega
        have f3 : (n : Int) ≤ 57 := by omega
        have f4 : ((n : Int) == 45) = false := by rw [beq_eq_false_iff_ne]; omega
        have Hb := Lib.hid (by rw [okName, Hbad.out rfl]; simp : okName l = false)
        go_wp2_with fail
        go_ret
        exact ⟨ret_bool (by rw [Hb.out]), rfl⟩
      · skip
        have f0 : ¬ 97 ≤ (n : Int) := by omega
        have f1 : (n : Int) ≤ 122 := by omega
        have f2 : 48 ≤ (n : Int) := by omega
        have f3 : ¬ (n : Int) ≤ 57 := by omega
        have f4 : ((n : Int) == 45) = false := by rw [beq_eq_false_iff_ne]; omega
        have Hb := Lib.hid (by rw [okName, Hbad.out rfl]; simp : okName l = false)
        go_wp2_with fail
        go_ret
        exact ⟨ret_bool (by rw [Hb.out]), rfl⟩
      · skip
        have f0 : 97 ≤ (n : Int) := by omega
        have f1 : ¬ (n : Int) ≤ 122 := by omega
        have f2 : 48 ≤ (n : Int) := by omega
        have f3 : ¬ (n : Int) ≤ 57 := by omega
        have f4 : ((n : Int) == 45) = false := by rw [beq_eq_false_iff_ne]; omega
        have Hb := Lib.hid (by rw [okName, Hbad.out rfl]; simp : okName l = false)
        go_wp2_with fail
        go_ret
        exact ⟨ret_bool (by rw [Hb.out]), rfl⟩
    · obtain rfl : k = l.length := by omega
      have Hfin : Hid (l.all okC = true) := Lib.hid (by have := HALL.out; rwa [List.take_length] at this)
      by_cases h1 : l.length < 1
      · have HE := Lib.hid (okName_len (.inl h1))
        go_wp2_with fail
        go_ret
        exact ⟨ret_bool (by rw [HE.out]), rfl⟩
      · by_cases h2 : 16 < l.length
        · have HE := Lib.hid (okName_len (.inr h2))
          go_wp2_with fail
          go_ret
          exact ⟨ret_bool (by rw [HE.out]; exact decide_eq_false (by omega)), rfl⟩
        · have HE := Lib.hid (okName_all h1 h2)
          go_wp2_with fail
          go_ret
          exact ⟨ret_bool (by rw [HE.out, Hfin.out]; exact decide_eq_true (by omega)), rfl⟩
end Go.Proofs.YtkdkpnidiehdfaaDoor
