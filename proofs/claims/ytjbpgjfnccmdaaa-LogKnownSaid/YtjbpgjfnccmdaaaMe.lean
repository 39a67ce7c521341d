/- names of files: disk.named. -/
import Derived.Test.YtjbpgjfnccmdaaaMd
import Derived.Laws.IdiomStrings
set_option linter.unusedSimpArgs false
set_option linter.unusedVariables false
namespace Go.Proofs.Ytjbpgjfnccmdaaa
open Go.RowKit

theorem str_len (l : Nm) : (str l).size = l.length := rfl
theorem str_data (l : Nm) : (str l).data = l.toArray := rfl
/-- '[]byte(s)'. -/
theorem run_bytes_str {P : Program} (w : World) (src dst e : TypeId) (l : Nm) (h1 : P.underlying src = some .string) (h2 : P.underlying dst = some (.slice e)) (h3 : P.underlying e = some (.int .u8)) :
    ∃ cap w', (convert src dst (.string (str l))).run P w = .ok (.slice (some ⟨w.heap.size, 0, none⟩) l.length cap) w' ∧ Bs w' w'.heap.size (some ⟨w.heap.size, 0, none⟩) l ∧ Below w.heap.size w w' := by
  refine ⟨_, _, run_bytes_of_string w src dst e (str l) h1 h2 h3, fun j hj => ?_, ?_⟩
  · refine ⟨w.heap.size, 0, rfl, ?_, ?_⟩
    · simp
    · have hb := heap_alloc_new w.drew (.cells (bytesRow (str l) (grownCap w (str l).size 0 e)) e ((bytesRow (str l) (grownCap w (str l).size 0 e)).size, (bytesRow (str l) (grownCap w (str l).size 0 e)).size + 1))
      have hc := cell_of_row (w.drew.alloc (.cells (bytesRow (str l) (grownCap w (str l).size 0 e)) e ((bytesRow (str l) (grownCap w (str l).size 0 e)).size, (bytesRow (str l) (grownCap w (str l).size 0 e)).size + 1))) w.heap.size (0 + j) _ e _ hb
      rw [hc]
      unfold bytesRow
      rw [Array.getElem?_append_left (by simp [str_data]; omega)]
      simp [str_data, List.getD_eq_getElem?_getD, hj]
  · exact ((Below.refl _ _).drew).alloc (Nat.le_refl _) _
set_option maxRecDepth 100000 in
set_option maxHeartbeats 1000000 in
theorem named_any (l : Nm) (hl : l.length ≤ 9223372036854775807) (w : World) : Calls Try.prog 53 #[.string (str l)] w fun e w' => e = .returned (.bool (nameOk l)) ∧ Below w.heap.size w w' := by
  have hs := str_len l
  obtain ⟨cap, w1, hc, hb, hw⟩ := run_bytes_str (P := Try.prog) w 9 31 5 l Try.underlying9 Try.underlying31 Try.underlying5
  have Hb := Lib.hid hb; have Hw := Lib.hid hw
  clear hb hw
  by_cases h1 : 1 ≤ l.length ∧ l.length ≤ 40
  · have Hi := Lib.hid (contains_named l _ rfl (by omega) (some ⟨w.heap.size, 0, none⟩) cap _ w1 Hb.out)
    have Hz : Hid (nameOk l = l.all okc) := Lib.hid (by unfold nameOk; rw [decide_eq_true h1.1, decide_eq_true h1.2]; rfl)
    obtain ⟨h1, h2⟩ := h1
    go_enter Try.func53, Try.ntmps53
    go_wp2_with fail
    refine Hi.out.mono ?_
    rintro e w2 ⟨rfl, rfl⟩
    go_wp2_with fail
    go_ret
    exact ⟨ret_bool (by rw [Hz.out]), Hw.out⟩
  · have Hz : Hid (nameOk l = false) := Lib.hid (by unfold nameOk; rcases Nat.lt_or_ge l.length 1 with h | h
                                                    · rw [decide_eq_false (show ¬ 1 ≤ l.length by omega)]; rfl
                                                    · rw [decide_eq_false (show ¬ l.length ≤ 40 by omega)]; simp)
    clear hc
    have hcase : l.length < 1 ∨ 40 < l.length := by omega
    go_enter Try.func53, Try.ntmps53
    rcases hcase with h | h
    · clear h1
      go_wp2_with fail
      go_ret
      exact ⟨ret_bool (by rw [Hz.out]), Below.refl _ _⟩
    · clear h1
      have h2 : ¬ l.length < 1 := by omega
      go_wp2_with fail
      go_ret
      exact ⟨ret_bool (by rw [Hz.out]), Below.refl _ _⟩
end Go.Proofs.Ytjbpgjfnccmdaaa
