/- stores that nobody made: each of their calls (printed by gen_none22.py). -/
import Derived.Test.YtdmodhcbcpmadaaDoorA3
set_option linter.unusedSimpArgs false
set_option linter.unusedVariables false
namespace Go.Proofs.YtdmodhcbcpmadaaDoor
open Go.RowKit

/-- a store's value that is none. -/
def SNone (w : World) (v : Value) : Prop := v = .pointer none ∨ ∃ g, v = .pointer (some ⟨g, 0, none⟩) ∧ w.cell? ⟨g, 0, none⟩ = some (.pointer none)
theorem SNone.below {w w' : World} {v : Value} (h : SNone w v) (hb : Below w.heap.size w w') : SNone w' v := by
  rcases h with h | ⟨g, h1, h2⟩
  · exact .inl h
  · exact .inr ⟨g, h1, (hb.cell (p := ⟨g, 0, none⟩) (cell_lt h2)).trans h2⟩
/-- a disk's value that is none. -/
def ENone (w : World) (v : Value) : Prop := v = .pointer none ∨ ∃ g, v = .pointer (some ⟨g, 0, none⟩) ∧ w.cell? ⟨g, 1, none⟩ = some (.map none)
theorem enone_at {w : World} {v : Value} (h : ENone w v) : Calls Tryd.prog 41 #[v] w fun e w' => e = .returned (.bool true) ∧ w' = w := by
  rcases h with rfl | ⟨g, rfl, h2⟩
  · exact none_nil w
  · exact none_odd h2
set_option maxRecDepth 100000 in
set_option maxHeartbeats 2000000 in
theorem eread_none {w : World} {v : Value} (h : ENone w v) {s : Value} : Calls Tryd.prog 13 #[v, s] w fun e w' => e = .returned (.tuple #[.slice none 0 0, .int .i64 1]) ∧ w' = w := by
  have HN := Lib.hid (enone_at h)
  clear h
  go_enter Tryd.func13, Tryd.ntmps13
  go_wp2_with fail
  refine HN.out.mono ?_
  rintro e w1 ⟨rfl, rfl⟩
  go_wp2_with fail
  go_ret2
  exact ⟨rfl, rfl⟩
set_option maxRecDepth 100000 in
set_option maxHeartbeats 2000000 in
theorem sopen_none {w : World} {v : Value} (h : ENone w v) {s r : Value} : Calls Tryd.prog 4 #[v, s, r] w fun e w' => e = .returned (.tuple #[.pointer none, .slice none 0 0, .slice none 0 0, .int .i64 1]) ∧ w' = w := by
  have HN := Lib.hid (eread_none h (s := .string (str [])))
  have e0 : (str [] : ByteArray) = ⟨#[]⟩ := rfl
  rw [e0] at HN
  clear h e0
  go_enter Tryd.func4, Tryd.ntmps4
  go_wp2_with fail
  refine HN.out.mono ?_
  rintro e w1 ⟨rfl, rfl⟩
  go_wp2_with fail
  (try simp only [Exit.inBlock, Exit.then])
  refine bodyPost_ret (results_tmp4 rfl _ _ _) rfl ?_
  exact ⟨rfl, rfl⟩
set_option maxRecDepth 100000 in
set_option maxHeartbeats 2000000 in
theorem snone_at {w : World} {v : Value} (h : SNone w v) : Calls Tryd.prog 37 #[v] w fun e w' => e = .returned (.bool true) ∧ w' = w := by
  rcases h with rfl | ⟨g, rfl, h2⟩
  · go_enter Tryd.func37, Tryd.ntmps37
    go_wp2_with fail
    go_ret
    exact ⟨rfl, rfl⟩
  · go_enter Tryd.func37, Tryd.ntmps37
    go_wp2_with fail
    go_ret
    exact ⟨rfl, rfl⟩
set_option maxRecDepth 100000 in
set_option maxHeartbeats 2000000 in
theorem smay_none {w : World} {v : Value} (h : SNone w v) : Calls Tryd.prog 22 #[v] w fun e w' => e = .returned (.int .i64 1) ∧ w' = w := by
  have HN := Lib.hid (snone_at h)
  clear h
  go_enter Tryd.func22, Tryd.ntmps22
  go_wp2_with fail
  refine HN.out.mono ?_
  rintro e w1 ⟨rfl, rfl⟩
  go_wp2_with fail
  go_ret
  exact ⟨rfl, rfl⟩
set_option maxRecDepth 100000 in
set_option maxHeartbeats 2000000 in
theorem scommit_none {w : World} {v : Value} (h : SNone w v) (b : Value) : Calls Tryd.prog 5 #[v, b] w fun e w' => e = .returned (.int .i64 1) ∧ w' = w := by
  have HN := Lib.hid (smay_none h)
  clear h
  go_enter Tryd.func5, Tryd.ntmps5
  go_wp2_with fail
  refine HN.out.mono ?_
  rintro e w1 ⟨rfl, rfl⟩
  go_wp2_with fail
  go_ret
  exact ⟨rfl, rfl⟩
set_option maxRecDepth 100000 in
set_option maxHeartbeats 2000000 in
theorem sfits_none {w : World} {v : Value} (h : SNone w v) (n : Int) : Calls Tryd.prog 7 #[v, .int .i64 n] w fun e w' => e = .returned (.bool false) ∧ w' = w := by
  have HN := Lib.hid (snone_at h)
  clear h
  go_enter Tryd.func7, Tryd.ntmps7
  go_wp2_with fail
  refine HN.out.mono ?_
  rintro e w1 ⟨rfl, rfl⟩
  go_wp2_with fail
  go_ret
  exact ⟨rfl, rfl⟩
set_option maxRecDepth 100000 in
set_option maxHeartbeats 2000000 in
theorem ssmall_none {w : World} {v : Value} (h : SNone w v) (n : Int) : Calls Tryd.prog 8 #[v, .int .i64 n] w fun e w' => e = .returned (.bool false) ∧ w' = w := by
  have HN := Lib.hid (snone_at h)
  clear h
  go_enter Tryd.func8, Tryd.ntmps8
  go_wp2_with fail
  refine HN.out.mono ?_
  rintro e w1 ⟨rfl, rfl⟩
  go_wp2_with fail
  go_ret
  exact ⟨rfl, rfl⟩
set_option maxRecDepth 100000 in
set_option maxHeartbeats 2000000 in
theorem sgen_none {w : World} {v : Value} (h : SNone w v) : Calls Tryd.prog 9 #[v] w fun e w' => e = .returned (.int .i64 0) ∧ w' = w := by
  have HN := Lib.hid (snone_at h)
  clear h
  go_enter Tryd.func9, Tryd.ntmps9
  go_wp2_with fail
  refine HN.out.mono ?_
  rintro e w1 ⟨rfl, rfl⟩
  go_wp2_with fail
  go_ret
  exact ⟨rfl, rfl⟩
set_option maxRecDepth 100000 in
set_option maxHeartbeats 2000000 in
theorem sused_none {w : World} {v : Value} (h : SNone w v) : Calls Tryd.prog 10 #[v] w fun e w' => e = .returned (.int .i64 0) ∧ w' = w := by
  have HN := Lib.hid (snone_at h)
  clear h
  go_enter Tryd.func10, Tryd.ntmps10
  go_wp2_with fail
  refine HN.out.mono ?_
  rintro e w1 ⟨rfl, rfl⟩
  go_wp2_with fail
  go_ret
  exact ⟨rfl, rfl⟩
set_option maxRecDepth 100000 in
set_option maxHeartbeats 2000000 in
theorem sbroken_none {w : World} {v : Value} (h : SNone w v) : Calls Tryd.prog 11 #[v] w fun e w' => e = .returned (.bool false) ∧ w' = w := by
  have HN := Lib.hid (snone_at h)
  clear h
  go_enter Tryd.func11, Tryd.ntmps11
  go_wp2_with fail
  refine HN.out.mono ?_
  rintro e w1 ⟨rfl, rfl⟩
  go_wp2_with fail
  go_ret
  exact ⟨rfl, rfl⟩
set_option maxRecDepth 100000 in
set_option maxHeartbeats 2000000 in
theorem scompact_none {w : World} {v : Value} (h : SNone w v) (b : Value) (hv : v = .pointer none ∨ ∃ a, v = .pointer (some a)) : Calls Tryd.prog 6 #[v, b] w fun e w' => e = .returned (.int .i64 1) ∧ Below w.heap.size w w' := by
  have HN := Lib.hid (smay_none (h.below (below_alloc w (.cells #[v] 23))))
  have HB := Lib.hid (below_alloc w (.cells #[v] 23))
  have hbx := heap_alloc_new w (.cells #[v] 23)
  have c0 : (w.alloc (.cells #[v] 23)).cell? ⟨w.heap.size, 0, none⟩ = some v := by rw [cell_blk hbx]; rfl
  clear h hbx
  rcases hv with rfl | ⟨a, rfl⟩
  all_goals
    go_enter Tryd.func6, Tryd.ntmps6
    go_wp2_with fail
    refine HN.out.mono ?_
    rintro e w1 ⟨rfl, rfl⟩
    go_wp2_with fail
    go_ret
    exact ⟨rfl, HB.out⟩
end Go.Proofs.YtdmodhcbcpmadaaDoor
