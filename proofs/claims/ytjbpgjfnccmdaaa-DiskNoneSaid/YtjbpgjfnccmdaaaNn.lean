/- disks that nobody made: each of their calls (printed by gen_none19.py). -/
import Derived.Test.YtjbpgjfnccmdaaaNb
set_option linter.unusedSimpArgs false
set_option linter.unusedVariables false
namespace Go.Proofs.Ytjbpgjfnccmdaaa
open Go.RowKit

/-- a disk's value that is none. -/
def DNone (w : World) (v : Value) : Prop := v = .pointer none ∨ ∃ g, v = .pointer (some ⟨g, 0, none⟩) ∧ w.cell? ⟨g, 1, none⟩ = some (.map none)
theorem DNone.below {w w' : World} {v : Value} (h : DNone w v) (hb : Below w.heap.size w w') : DNone w' v := by
  rcases h with h | ⟨g, h1, h2⟩
  · exact .inl h
  · exact .inr ⟨g, h1, (hb.cell (p := ⟨g, 1, none⟩) (cell_lt h2)).trans h2⟩
theorem dnone_at {w : World} {v : Value} (h : DNone w v) : Calls Try.prog 50 #[v] w fun e w' => e = .returned (.bool true) ∧ w' = w := by
  rcases h with rfl | ⟨g, rfl, h2⟩
  · exact none_nil w
  · exact none_odd h2
set_option maxRecDepth 100000 in
set_option maxHeartbeats 2000000 in
theorem read_none {w : World} {v : Value} (h : DNone w v) {s : Value} : Calls Try.prog 17 #[v, s] w fun e w' => e = .returned (.tuple #[.slice none 0 0, .int .i64 1]) ∧ w' = w := by
  have HN := Lib.hid (dnone_at h)
  clear h
  go_enter Try.func17, Try.ntmps17
  go_wp2_with fail
  refine HN.out.mono ?_
  rintro e w1 ⟨rfl, rfl⟩
  go_wp2_with fail
  go_ret2
  exact ⟨rfl, rfl⟩
set_option maxRecDepth 100000 in
set_option maxHeartbeats 2000000 in
theorem append_none {w : World} {v : Value} (h : DNone w v) (k : ByteArray) (A : Option Addr) (n c : Nat) : Calls Try.prog 24 #[v, .string k, .slice A n c] w fun e w' => e = .returned (.int .i64 1) ∧ Below w.heap.size w w' := by
  rcases h with rfl | ⟨g, rfl, h2⟩
  · skip
    go_enter Try.func24, Try.ntmps24
    go_wp2_with fail
    obtain ⟨b0_, b1_, b2_, hb_⟩ := boxes3 w (.cells #[.pointer none] 24) (.cells #[.string k] 9) (.cells #[.slice A n c] 31)
    generalize ((w.alloc (.cells #[.pointer none] 24)).alloc (.cells #[.string k] 9)).alloc (.cells #[.slice A n c] 31) = w0 at *
    have T0 : Hid (∀ W, Below w0.heap.size w0 W → W.cell? ⟨w.heap.size, 0, none⟩ = some (.pointer none)) := Lib.hid (fun W hW => by have e := (hW.block _ (lt_blk b0_)).trans b0_; exact by rw [cell_blk e]; rfl)
    have T1 : Hid (∀ W, Below w0.heap.size w0 W → W.cell? ⟨w.heap.size + 1, 0, none⟩ = some (.string k)) := Lib.hid (fun W hW => by have e := (hW.block _ (lt_blk b1_)).trans b1_; exact by rw [cell_blk e]; rfl)
    have T2 : Hid (∀ W, Below w0.heap.size w0 W → W.cell? ⟨w.heap.size + 1 + 1, 0, none⟩ = some (.slice A n c)) := Lib.hid (fun W hW => by have e := (hW.block _ (lt_blk b2_)).trans b2_; exact by rw [cell_blk e]; rfl)
    have HB := Lib.hid hb_
    clear hb_ b0_ b1_ b2_
    refine (none_nil _).mono ?_
    rintro e w1 ⟨rfl, rfl⟩
    go_wp2_with fail
    go_ret
    exact ⟨rfl, HB.out⟩
  · have H2 := Lib.hid h2
    clear h2
    go_enter Try.func24, Try.ntmps24
    go_wp2_with fail
    obtain ⟨b0_, b1_, b2_, hb_⟩ := boxes3 w (.cells #[.pointer (some ⟨g, 0, none⟩)] 24) (.cells #[.string k] 9) (.cells #[.slice A n c] 31)
    generalize ((w.alloc (.cells #[.pointer (some ⟨g, 0, none⟩)] 24)).alloc (.cells #[.string k] 9)).alloc (.cells #[.slice A n c] 31) = w0 at *
    have T0 : Hid (∀ W, Below w0.heap.size w0 W → W.cell? ⟨w.heap.size, 0, none⟩ = some (.pointer (some ⟨g, 0, none⟩))) := Lib.hid (fun W hW => by have e := (hW.block _ (lt_blk b0_)).trans b0_; exact by rw [cell_blk e]; rfl)
    have T1 : Hid (∀ W, Below w0.heap.size w0 W → W.cell? ⟨w.heap.size + 1, 0, none⟩ = some (.string k)) := Lib.hid (fun W hW => by have e := (hW.block _ (lt_blk b1_)).trans b1_; exact by rw [cell_blk e]; rfl)
    have T2 : Hid (∀ W, Below w0.heap.size w0 W → W.cell? ⟨w.heap.size + 1 + 1, 0, none⟩ = some (.slice A n c)) := Lib.hid (fun W hW => by have e := (hW.block _ (lt_blk b2_)).trans b2_; exact by rw [cell_blk e]; rfl)
    have HB := Lib.hid hb_
    clear hb_ b0_ b1_ b2_
    refine (none_odd ((HB.out.cell (p := ⟨g, 1, none⟩) (cell_lt H2.out)).trans H2.out)).mono ?_
    rintro e w1 ⟨rfl, rfl⟩
    go_wp2_with fail
    go_ret
    exact ⟨rfl, HB.out⟩
set_option maxRecDepth 100000 in
set_option maxHeartbeats 2000000 in
theorem cut_none {w : World} {v : Value} (h : DNone w v) (k : ByteArray) (n : Int) : Calls Try.prog 31 #[v, .string k, .int .i64 n] w fun e w' => e = .returned (.int .i64 1) ∧ Below w.heap.size w w' := by
  rcases h with rfl | ⟨g, rfl, h2⟩
  · skip
    go_enter Try.func31, Try.ntmps31
    go_wp2_with fail
    obtain ⟨b0_, b1_, b2_, hb_⟩ := boxes3 w (.cells #[.pointer none] 24) (.cells #[.string k] 9) (.cells #[.int .i64 n] 3)
    generalize ((w.alloc (.cells #[.pointer none] 24)).alloc (.cells #[.string k] 9)).alloc (.cells #[.int .i64 n] 3) = w0 at *
    have T0 : Hid (∀ W, Below w0.heap.size w0 W → W.cell? ⟨w.heap.size, 0, none⟩ = some (.pointer none)) := Lib.hid (fun W hW => by have e := (hW.block _ (lt_blk b0_)).trans b0_; exact by rw [cell_blk e]; rfl)
    have T1 : Hid (∀ W, Below w0.heap.size w0 W → W.cell? ⟨w.heap.size + 1, 0, none⟩ = some (.string k)) := Lib.hid (fun W hW => by have e := (hW.block _ (lt_blk b1_)).trans b1_; exact by rw [cell_blk e]; rfl)
    have T2 : Hid (∀ W, Below w0.heap.size w0 W → W.cell? ⟨w.heap.size + 1 + 1, 0, none⟩ = some (.int .i64 n)) := Lib.hid (fun W hW => by have e := (hW.block _ (lt_blk b2_)).trans b2_; exact by rw [cell_blk e]; rfl)
    have HB := Lib.hid hb_
    clear hb_ b0_ b1_ b2_
    refine (none_nil _).mono ?_
    rintro e w1 ⟨rfl, rfl⟩
    go_wp2_with fail
    go_ret
    exact ⟨rfl, HB.out⟩
  · have H2 := Lib.hid h2
    clear h2
    go_enter Try.func31, Try.ntmps31
    go_wp2_with fail
    obtain ⟨b0_, b1_, b2_, hb_⟩ := boxes3 w (.cells #[.pointer (some ⟨g, 0, none⟩)] 24) (.cells #[.string k] 9) (.cells #[.int .i64 n] 3)
    generalize ((w.alloc (.cells #[.pointer (some ⟨g, 0, none⟩)] 24)).alloc (.cells #[.string k] 9)).alloc (.cells #[.int .i64 n] 3) = w0 at *
    have T0 : Hid (∀ W, Below w0.heap.size w0 W → W.cell? ⟨w.heap.size, 0, none⟩ = some (.pointer (some ⟨g, 0, none⟩))) := Lib.hid (fun W hW => by have e := (hW.block _ (lt_blk b0_)).trans b0_; exact by rw [cell_blk e]; rfl)
    have T1 : Hid (∀ W, Below w0.heap.size w0 W → W.cell? ⟨w.heap.size + 1, 0, none⟩ = some (.string k)) := Lib.hid (fun W hW => by have e := (hW.block _ (lt_blk b1_)).trans b1_; exact by rw [cell_blk e]; rfl)
    have T2 : Hid (∀ W, Below w0.heap.size w0 W → W.cell? ⟨w.heap.size + 1 + 1, 0, none⟩ = some (.int .i64 n)) := Lib.hid (fun W hW => by have e := (hW.block _ (lt_blk b2_)).trans b2_; exact by rw [cell_blk e]; rfl)
    have HB := Lib.hid hb_
    clear hb_ b0_ b1_ b2_
    refine (none_odd ((HB.out.cell (p := ⟨g, 1, none⟩) (cell_lt H2.out)).trans H2.out)).mono ?_
    rintro e w1 ⟨rfl, rfl⟩
    go_wp2_with fail
    go_ret
    exact ⟨rfl, HB.out⟩
set_option maxRecDepth 100000 in
set_option maxHeartbeats 2000000 in
theorem sync_none {w : World} {v : Value} (h : DNone w v) (k : ByteArray) : Calls Try.prog 27 #[v, .string k] w fun e w' => e = .returned (.int .i64 1) ∧ Below w.heap.size w w' := by
  rcases h with rfl | ⟨g, rfl, h2⟩
  · skip
    go_enter Try.func27, Try.ntmps27
    go_wp2_with fail
    obtain ⟨b0_, b1_, hb_⟩ := boxes2 w (.cells #[.pointer none] 24) (.cells #[.string k] 9)
    generalize (w.alloc (.cells #[.pointer none] 24)).alloc (.cells #[.string k] 9) = w0 at *
    have T0 : Hid (∀ W, Below w0.heap.size w0 W → W.cell? ⟨w.heap.size, 0, none⟩ = some (.pointer none)) := Lib.hid (fun W hW => by have e := (hW.block _ (lt_blk b0_)).trans b0_; exact by rw [cell_blk e]; rfl)
    have T1 : Hid (∀ W, Below w0.heap.size w0 W → W.cell? ⟨w.heap.size + 1, 0, none⟩ = some (.string k)) := Lib.hid (fun W hW => by have e := (hW.block _ (lt_blk b1_)).trans b1_; exact by rw [cell_blk e]; rfl)
    have HB := Lib.hid hb_
    clear hb_ b0_ b1_
    refine (none_nil _).mono ?_
    rintro e w1 ⟨rfl, rfl⟩
    go_wp2_with fail
    go_ret
    exact ⟨rfl, HB.out⟩
  · have H2 := Lib.hid h2
    clear h2
    go_enter Try.func27, Try.ntmps27
    go_wp2_with fail
    obtain ⟨b0_, b1_, hb_⟩ := boxes2 w (.cells #[.pointer (some ⟨g, 0, none⟩)] 24) (.cells #[.string k] 9)
    generalize (w.alloc (.cells #[.pointer (some ⟨g, 0, none⟩)] 24)).alloc (.cells #[.string k] 9) = w0 at *
    have T0 : Hid (∀ W, Below w0.heap.size w0 W → W.cell? ⟨w.heap.size, 0, none⟩ = some (.pointer (some ⟨g, 0, none⟩))) := Lib.hid (fun W hW => by have e := (hW.block _ (lt_blk b0_)).trans b0_; exact by rw [cell_blk e]; rfl)
    have T1 : Hid (∀ W, Below w0.heap.size w0 W → W.cell? ⟨w.heap.size + 1, 0, none⟩ = some (.string k)) := Lib.hid (fun W hW => by have e := (hW.block _ (lt_blk b1_)).trans b1_; exact by rw [cell_blk e]; rfl)
    have HB := Lib.hid hb_
    clear hb_ b0_ b1_
    refine (none_odd ((HB.out.cell (p := ⟨g, 1, none⟩) (cell_lt H2.out)).trans H2.out)).mono ?_
    rintro e w1 ⟨rfl, rfl⟩
    go_wp2_with fail
    go_ret
    exact ⟨rfl, HB.out⟩
set_option maxRecDepth 100000 in
set_option maxHeartbeats 2000000 in
theorem rename_none {w : World} {v : Value} (h : DNone w v) (k k2 : ByteArray) : Calls Try.prog 32 #[v, .string k, .string k2] w fun e w' => e = .returned (.int .i64 1) ∧ Below w.heap.size w w' := by
  rcases h with rfl | ⟨g, rfl, h2⟩
  · skip
    go_enter Try.func32, Try.ntmps32
    go_wp2_with fail
    obtain ⟨b0_, b1_, b2_, hb_⟩ := boxes3 w (.cells #[.pointer none] 24) (.cells #[.string k] 9) (.cells #[.string k2] 9)
    generalize ((w.alloc (.cells #[.pointer none] 24)).alloc (.cells #[.string k] 9)).alloc (.cells #[.string k2] 9) = w0 at *
    have T0 : Hid (∀ W, Below w0.heap.size w0 W → W.cell? ⟨w.heap.size, 0, none⟩ = some (.pointer none)) := Lib.hid (fun W hW => by have e := (hW.block _ (lt_blk b0_)).trans b0_; exact by rw [cell_blk e]; rfl)
    have T1 : Hid (∀ W, Below w0.heap.size w0 W → W.cell? ⟨w.heap.size + 1, 0, none⟩ = some (.string k)) := Lib.hid (fun W hW => by have e := (hW.block _ (lt_blk b1_)).trans b1_; exact by rw [cell_blk e]; rfl)
    have T2 : Hid (∀ W, Below w0.heap.size w0 W → W.cell? ⟨w.heap.size + 1 + 1, 0, none⟩ = some (.string k2)) := Lib.hid (fun W hW => by have e := (hW.block _ (lt_blk b2_)).trans b2_; exact by rw [cell_blk e]; rfl)
    have HB := Lib.hid hb_
    clear hb_ b0_ b1_ b2_
    refine (none_nil _).mono ?_
    rintro e w1 ⟨rfl, rfl⟩
    go_wp2_with fail
    go_ret
    exact ⟨rfl, HB.out⟩
  · have H2 := Lib.hid h2
    clear h2
    go_enter Try.func32, Try.ntmps32
    go_wp2_with fail
    obtain ⟨b0_, b1_, b2_, hb_⟩ := boxes3 w (.cells #[.pointer (some ⟨g, 0, none⟩)] 24) (.cells #[.string k] 9) (.cells #[.string k2] 9)
    generalize ((w.alloc (.cells #[.pointer (some ⟨g, 0, none⟩)] 24)).alloc (.cells #[.string k] 9)).alloc (.cells #[.string k2] 9) = w0 at *
    have T0 : Hid (∀ W, Below w0.heap.size w0 W → W.cell? ⟨w.heap.size, 0, none⟩ = some (.pointer (some ⟨g, 0, none⟩))) := Lib.hid (fun W hW => by have e := (hW.block _ (lt_blk b0_)).trans b0_; exact by rw [cell_blk e]; rfl)
    have T1 : Hid (∀ W, Below w0.heap.size w0 W → W.cell? ⟨w.heap.size + 1, 0, none⟩ = some (.string k)) := Lib.hid (fun W hW => by have e := (hW.block _ (lt_blk b1_)).trans b1_; exact by rw [cell_blk e]; rfl)
    have T2 : Hid (∀ W, Below w0.heap.size w0 W → W.cell? ⟨w.heap.size + 1 + 1, 0, none⟩ = some (.string k2)) := Lib.hid (fun W hW => by have e := (hW.block _ (lt_blk b2_)).trans b2_; exact by rw [cell_blk e]; rfl)
    have HB := Lib.hid hb_
    clear hb_ b0_ b1_ b2_
    refine (none_odd ((HB.out.cell (p := ⟨g, 1, none⟩) (cell_lt H2.out)).trans H2.out)).mono ?_
    rintro e w1 ⟨rfl, rfl⟩
    go_wp2_with fail
    go_ret
    exact ⟨rfl, HB.out⟩
set_option maxRecDepth 100000 in
set_option maxHeartbeats 2000000 in
theorem remove_none {w : World} {v : Value} (h : DNone w v) (k : ByteArray) : Calls Try.prog 41 #[v, .string k] w fun e w' => e = .returned (.int .i64 1) ∧ Below w.heap.size w w' := by
  rcases h with rfl | ⟨g, rfl, h2⟩
  · skip
    go_enter Try.func41, Try.ntmps41
    go_wp2_with fail
    obtain ⟨b0_, b1_, hb_⟩ := boxes2 w (.cells #[.pointer none] 24) (.cells #[.string k] 9)
    generalize (w.alloc (.cells #[.pointer none] 24)).alloc (.cells #[.string k] 9) = w0 at *
    have T0 : Hid (∀ W, Below w0.heap.size w0 W → W.cell? ⟨w.heap.size, 0, none⟩ = some (.pointer none)) := Lib.hid (fun W hW => by have e := (hW.block _ (lt_blk b0_)).trans b0_; exact by rw [cell_blk e]; rfl)
    have T1 : Hid (∀ W, Below w0.heap.size w0 W → W.cell? ⟨w.heap.size + 1, 0, none⟩ = some (.string k)) := Lib.hid (fun W hW => by have e := (hW.block _ (lt_blk b1_)).trans b1_; exact by rw [cell_blk e]; rfl)
    have HB := Lib.hid hb_
    clear hb_ b0_ b1_
    refine (none_nil _).mono ?_
    rintro e w1 ⟨rfl, rfl⟩
    go_wp2_with fail
    go_ret
    exact ⟨rfl, HB.out⟩
  · have H2 := Lib.hid h2
    clear h2
    go_enter Try.func41, Try.ntmps41
    go_wp2_with fail
    obtain ⟨b0_, b1_, hb_⟩ := boxes2 w (.cells #[.pointer (some ⟨g, 0, none⟩)] 24) (.cells #[.string k] 9)
    generalize (w.alloc (.cells #[.pointer (some ⟨g, 0, none⟩)] 24)).alloc (.cells #[.string k] 9) = w0 at *
    have T0 : Hid (∀ W, Below w0.heap.size w0 W → W.cell? ⟨w.heap.size, 0, none⟩ = some (.pointer (some ⟨g, 0, none⟩))) := Lib.hid (fun W hW => by have e := (hW.block _ (lt_blk b0_)).trans b0_; exact by rw [cell_blk e]; rfl)
    have T1 : Hid (∀ W, Below w0.heap.size w0 W → W.cell? ⟨w.heap.size + 1, 0, none⟩ = some (.string k)) := Lib.hid (fun W hW => by have e := (hW.block _ (lt_blk b1_)).trans b1_; exact by rw [cell_blk e]; rfl)
    have HB := Lib.hid hb_
    clear hb_ b0_ b1_
    refine (none_odd ((HB.out.cell (p := ⟨g, 1, none⟩) (cell_lt H2.out)).trans H2.out)).mono ?_
    rintro e w1 ⟨rfl, rfl⟩
    go_wp2_with fail
    go_ret
    exact ⟨rfl, HB.out⟩
set_option maxRecDepth 100000 in
set_option maxHeartbeats 2000000 in
theorem stop_none {w : World} {v : Value} (h : DNone w v) {s : Value} : Calls Try.prog 33 #[v, s] w fun e w' => e = .returned (.int .i64 1) ∧ w' = w := by
  have HN := Lib.hid (dnone_at h)
  clear h
  go_enter Try.func33, Try.ntmps33
  go_wp2_with fail
  refine HN.out.mono ?_
  rintro e w1 ⟨rfl, rfl⟩
  go_wp2_with fail
  go_ret
  exact ⟨rfl, rfl⟩
set_option maxRecDepth 100000 in
set_option maxHeartbeats 2000000 in
theorem crash_none {w : World} {v : Value} (h : DNone w v) {s : Value} : Calls Try.prog 28 #[v, s] w fun e w' => e = .returned (.int .i64 1) ∧ w' = w := by
  have HN := Lib.hid (dnone_at h)
  clear h
  go_enter Try.func28, Try.ntmps28
  go_wp2_with fail
  refine HN.out.mono ?_
  rintro e w1 ⟨rfl, rfl⟩
  go_wp2_with fail
  go_ret
  exact ⟨rfl, rfl⟩
set_option maxRecDepth 100000 in
set_option maxHeartbeats 2000000 in
theorem names_none {w : World} {v : Value} (h : DNone w v) : Calls Try.prog 30 #[v] w fun e w' => e = .returned (.slice none 0 0) ∧ w' = w := by
  have HN := Lib.hid (dnone_at h)
  clear h
  go_enter Try.func30, Try.ntmps30
  go_wp2_with fail
  refine HN.out.mono ?_
  rintro e w1 ⟨rfl, rfl⟩
  go_wp2_with fail
  go_ret
  exact ⟨rfl, rfl⟩
set_option maxRecDepth 100000 in
set_option maxHeartbeats 2000000 in
theorem used_none {w : World} {v : Value} (h : DNone w v) : Calls Try.prog 42 #[v] w fun e w' => e = .returned (.int .i64 0) ∧ w' = w := by
  have HN := Lib.hid (dnone_at h)
  clear h
  go_enter Try.func42, Try.ntmps42
  go_wp2_with fail
  refine HN.out.mono ?_
  rintro e w1 ⟨rfl, rfl⟩
  go_wp2_with fail
  go_ret
  exact ⟨rfl, rfl⟩
set_option maxRecDepth 100000 in
set_option maxHeartbeats 2000000 in
theorem dsize_none {w : World} {v : Value} (h : DNone w v) : Calls Try.prog 43 #[v] w fun e w' => e = .returned (.int .i64 0) ∧ w' = w := by
  have HN := Lib.hid (dnone_at h)
  clear h
  go_enter Try.func43, Try.ntmps43
  go_wp2_with fail
  refine HN.out.mono ?_
  rintro e w1 ⟨rfl, rfl⟩
  go_wp2_with fail
  go_ret
  exact ⟨rfl, rfl⟩
set_option maxRecDepth 100000 in
set_option maxHeartbeats 2000000 in
theorem loose_none {w : World} {v : Value} (h : DNone w v) {s : Value} : Calls Try.prog 38 #[v, s] w fun e w' => e = .returned (.int .i64 0) ∧ w' = w := by
  have HN := Lib.hid (dnone_at h)
  clear h
  go_enter Try.func38, Try.ntmps38
  go_wp2_with fail
  refine HN.out.mono ?_
  rintro e w1 ⟨rfl, rfl⟩
  go_wp2_with fail
  go_ret
  exact ⟨rfl, rfl⟩
set_option maxRecDepth 100000 in
set_option maxHeartbeats 2000000 in
theorem stopped_none {w : World} {v : Value} (h : DNone w v) : Calls Try.prog 34 #[v] w fun e w' => e = .returned (.bool false) ∧ w' = w := by
  have HN := Lib.hid (dnone_at h)
  clear h
  go_enter Try.func34, Try.ntmps34
  go_wp2_with fail
  refine HN.out.mono ?_
  rintro e w1 ⟨rfl, rfl⟩
  go_wp2_with fail
  go_ret
  exact ⟨rfl, rfl⟩
set_option maxRecDepth 100000 in
set_option maxHeartbeats 2000000 in
theorem writes_none {w : World} {v : Value} (h : DNone w v) : Calls Try.prog 37 #[v] w fun e w' => e = .returned (.int .i64 0) ∧ w' = w := by
  have HN := Lib.hid (dnone_at h)
  clear h
  go_enter Try.func37, Try.ntmps37
  go_wp2_with fail
  refine HN.out.mono ?_
  rintro e w1 ⟨rfl, rfl⟩
  go_wp2_with fail
  go_ret
  exact ⟨rfl, rfl⟩
set_option maxRecDepth 100000 in
set_option maxHeartbeats 2000000 in
theorem clone_none {w : World} {v : Value} (h : DNone w v) : Calls Try.prog 39 #[v] w fun e w' => e = .returned (.pointer none) ∧ w' = w := by
  have HN := Lib.hid (dnone_at h)
  clear h
  go_enter Try.func39, Try.ntmps39
  go_wp2_with fail
  refine HN.out.mono ?_
  rintro e w1 ⟨rfl, rfl⟩
  go_wp2_with fail
  go_ret
  exact ⟨rfl, rfl⟩
end Go.Proofs.Ytjbpgjfnccmdaaa
