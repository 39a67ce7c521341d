/- log.named. -/
import Derived.Test.YtdmodhcbcpmadaaDoorMg5
set_option linter.unusedSimpArgs false
set_option linter.unusedVariables false
namespace Go.Proofs.YtdmodhcbcpmadaaDoor
open Go.RowKit

theorem run_index_str {P : Program} (w : World) (t : TypeId) (ht : P.underlying t = some .string) (l : Nm) (k : Nat) (h : k < l.length) : (Instr.index t (.string (str l)) (.int .i64 (k : Int))).run P w = .ok (.int .u8 ((l.getD k 0).toNat : Int)) w := by
  have h1 := run_index_string (P := P) w t (str l) .i64 (k : Int) ht
  rw [h1, dif_pos ⟨by omega, by rw [str_len]; omega⟩]
  have : (str l)[(k : Int).toNat]'(by rw [str_len]; omega) = l.getD k 0 := by
    show l.toArray[k]'(by simpa using h) = _
    rw [List.getElem_toArray]
    simp [List.getD_eq_getElem?_getD, h]
  rw [this]
set_option maxRecDepth 100000 in
set_option maxHeartbeats 4000000 in
theorem logname_any (l : Nm) (hl : l.length ≤ 1000000000) (w : World) : Calls Tryd.prog 48 #[.string (str l)] w fun e w' => e = .returned (.bool (nameOk l)) ∧ w' = w := by
  have hs := str_len l
  have hix := fun k h => run_index_str (P := Tryd.prog) w 9 Tryd.underlying9 l k h
  have HIX := Lib.hid hix
  clear hix
  go_enter Tryd.func48, Tryd.ntmps48
  go_wp2_with fail
  go_loopw [3, 4, 7] (fun _ _ iv wr => ∃ k : Nat, k ≤ l.length ∧ iv = .int .i64 k ∧ (l.take k).all okc = true ∧ w = wr) (fun _ _ iv _ => l.length - (intOf iv).toNat)
  case atStart => exact ⟨0, by omega, rfl, by simp, rfl⟩
  case round =>
    obtain ⟨k, hk, rfl, hall, rfl⟩ := hrel
    have HALL := Lib.hid hall
    clear hall
    by_cases hlt : k < l.length
    · have hix := HIX.out k hlt
      have Htk : Hid ((l.take (k + 1)).all okc = okc (l.getD k 0)) := Lib.hid (by
        rw [List.take_succ_eq_append_getElem hlt, List.all_append, HALL.out]
        simp [List.getD_eq_getElem?_getD, hlt])
      have Hbad : Hid (okc (l.getD k 0) = false → nameOk l = false) := Lib.hid (fun hz => by
        have : l.all okc = false := by
          rw [List.all_eq_false]
          exact ⟨l.getD k 0, by simp [List.getD_eq_getElem?_getD, hlt], by rw [hz]; decide⟩
        unfold nameOk; rw [this]; simp)
      have hz : ∀ z, (decide (97 ≤ (l.getD k 0).toNat ∧ (l.getD k 0).toNat ≤ 122) || decide (48 ≤ (l.getD k 0).toNat ∧ (l.getD k 0).toNat ≤ 57) || decide ((l.getD k 0).toNat = 46) || decide ((l.getD k 0).toNat = 45)) = z → okc (l.getD k 0) = z := fun z h => h
      generalize okc (l.getD k 0) = y at *
      generalize (l.getD k 0).toNat = n at *
      have hcase : n < 45 ∨ n = 45 ∨ n = 46 ∨ n = 47 ∨ (48 ≤ n ∧ n ≤ 57) ∨ (58 ≤ n ∧ n ≤ 96) ∨ (97 ≤ n ∧ n ≤ 122) ∨ 123 ≤ n := by omega
      rcases hcase with h | rfl | rfl | rfl | ⟨h, h'⟩ | ⟨h, h'⟩ | ⟨h, h'⟩ | h
      · obtain rfl := hz false (by simp; omega)
        clear hz
        have f0 : (n : Int) < 97 := by first | omega | (rw [bne_iff_ne]; omega)
        have f1 : (n : Int) < 48 := by first | omega | (rw [bne_iff_ne]; omega)
        have f2 : ((n : Int) != 46) = true := by first | omega | (rw [bne_iff_ne]; omega)
        have f3 : ((n : Int) != 45) = true := by first | omega | (rw [bne_iff_ne]; omega)
        have Hb := Lib.hid (Hbad.out rfl)
        go_wp2_with fail
        go_ret
        exact ⟨ret_bool (by rw [Hb.out]), rfl⟩
      · obtain rfl := hz true (by decide)
        clear hz
        go_wp2_with fail
        go_roundw
        case rel => exact ⟨k + 1, by omega, by go_num, Htk.out, trivial⟩
        case measure => simp [intOf]; omega
      · obtain rfl := hz true (by decide)
        clear hz
        go_wp2_with fail
        go_roundw
        case rel => exact ⟨k + 1, by omega, by go_num, Htk.out, trivial⟩
        case measure => simp [intOf]; omega
      · obtain rfl := hz false (by decide)
        clear hz
        have Hb := Lib.hid (Hbad.out rfl)
        go_wp2_with fail
        go_ret
        exact ⟨ret_bool (by rw [Hb.out]), rfl⟩
      · obtain rfl := hz true (by simp; omega)
        clear hz
        have f0 : (n : Int) < 97 := by first | omega | (rw [bne_iff_ne]; omega)
        have f1 : ¬ (n : Int) < 48 := by first | omega | (rw [bne_iff_ne]; omega)
        have f2 : ¬ 57 < (n : Int) := by first | omega | (rw [bne_iff_ne]; omega)
        go_wp2_with fail
        go_roundw
        case rel => exact ⟨k + 1, by omega, by go_num, Htk.out, trivial⟩
        case measure => simp [intOf]; omega
      · obtain rfl := hz false (by simp; omega)
        clear hz
        have f0 : (n : Int) < 97 := by first | omega | (rw [bne_iff_ne]; omega)
        have f1 : ¬ (n : Int) < 48 := by first | omega | (rw [bne_iff_ne]; omega)
        have f2 : 57 < (n : Int) := by first | omega | (rw [bne_iff_ne]; omega)
        have f3 : ((n : Int) != 46) = true := by first | omega | (rw [bne_iff_ne]; omega)
        have f4 : ((n : Int) != 45) = true := by first | omega | (rw [bne_iff_ne]; omega)
        have Hb := Lib.hid (Hbad.out rfl)
        go_wp2_with fail
        go_ret
        exact ⟨ret_bool (by rw [Hb.out]), rfl⟩
      · obtain rfl := hz true (by simp; omega)
        clear hz
        have f0 : ¬ (n : Int) < 97 := by first | omega | (rw [bne_iff_ne]; omega)
        have f1 : ¬ 122 < (n : Int) := by first | omega | (rw [bne_iff_ne]; omega)
        go_wp2_with fail
        go_roundw
        case rel => exact ⟨k + 1, by omega, by go_num, Htk.out, trivial⟩
        case measure => simp [intOf]; omega
      · obtain rfl := hz false (by simp; omega)
        clear hz
        have f0 : ¬ (n : Int) < 97 := by first | omega | (rw [bne_iff_ne]; omega)
        have f1 : 122 < (n : Int) := by first | omega | (rw [bne_iff_ne]; omega)
        have f2 : ¬ (n : Int) < 48 := by first | omega | (rw [bne_iff_ne]; omega)
        have f3 : 57 < (n : Int) := by first | omega | (rw [bne_iff_ne]; omega)
        have f4 : ((n : Int) != 46) = true := by first | omega | (rw [bne_iff_ne]; omega)
        have f5 : ((n : Int) != 45) = true := by first | omega | (rw [bne_iff_ne]; omega)
        have Hb := Lib.hid (Hbad.out rfl)
        go_wp2_with fail
        go_ret
        exact ⟨ret_bool (by rw [Hb.out]), rfl⟩
    · obtain rfl : k = l.length := by omega
      have hal : l.all okc = true := by have := HALL.out; rwa [List.take_length] at this
      have HZ : Hid (nameOk l = (decide (1 ≤ l.length) && decide (l.length ≤ 40))) := Lib.hid (by unfold nameOk; rw [hal]; simp)
      clear hal
      by_cases he : l = []
      · have h1 : (str l).toList.isEmpty = true := by rw [str_toList, he]; rfl
        have HE := Lib.hid he
        clear he
        go_wp2_with fail
        go_ret
        exact ⟨ret_bool (by rw [HZ.out, HE.out]; rfl), rfl⟩
      · have h1 : (str l).toList.isEmpty = false := by rw [str_toList]; cases l with
          | nil => exact absurd rfl he
          | cons a b => rfl
        have h2 : 1 ≤ l.length := by cases l with
          | nil => exact absurd rfl he
          | cons a b => simp
        clear he
        go_wp2_with fail
        go_ret
        exact ⟨ret_bool (by rw [HZ.out, decide_eq_true h2]; simp; try omega), rfl⟩
end Go.Proofs.YtdmodhcbcpmadaaDoor
