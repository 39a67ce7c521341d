/- race.follows, race.data. -/
import Derived.Test.YtkcpoebepiipoaaGp
import Derived.Test.YtkcpoebepiipoaaCa
import Derived.Test.YtkcpoebepiipoaaSg
set_option linter.unusedSimpArgs false
set_option linter.unusedVariables false
namespace Go.Proofs.Ytkcpoebepiipoaa
open Go.RowKit

set_option maxRecDepth 100000 in
set_option maxHeartbeats 4000000 in
theorem follows_any (a b : Ev) (w : World) : Calls Try.prog 45 #[a.v, b.v] w fun e w' => e = .returned (.bool (fol a b)) ∧ Below w.heap.size w w' := by
  obtain ⟨at_, ak, ao⟩ := a
  obtain ⟨bt, bk, bo⟩ := b
  unfold Ev.v
  have Hd : Hid (fol ⟨at_, ak, ao⟩ ⟨bt, bk, bo⟩ = (decide (at_ = bt) || (decide (ak = 4) && decide (bk = 3) && decide (ao = bo)))) := Lib.hid rfl
  generalize fol ⟨at_, ak, ao⟩ ⟨bt, bk, bo⟩ = fb at *
  generalize h1 : decide (at_ = bt) = x1 at *
  generalize h2 : decide (ak = 4) = x2 at *
  generalize h3 : decide (bk = 3) = x3 at *
  generalize h4 : decide (ao = bo) = x4 at *
  have d1 : (at_ == bt) = x1 := h1
  have d2 : (ak == 4) = x2 := h2
  have d3 : (bk == 3) = x3 := h3
  have d4 : (ao == bo) = x4 := h4
  clear h1 h2 h3 h4
  cases x1 <;> cases x2 <;> cases x3
  all_goals
    go_enter Try.func45, Try.ntmps45
    go_wp2_with fail
    go_ret
    exact ⟨ret_bool (by rw [Hd.out]; first | rfl | (cases x4 <;> rfl)), ((Below.refl _ _).alloc (Nat.le_refl _) _).alloc (by simp) _⟩
theorem shared_any (a : Ev) (w : World) : Calls Try.prog 46 #[a.v] w fun e w' => e = .returned (.bool (isVr a.k)) ∧ Below w.heap.size w w' := by
  obtain ⟨at_, ak, ao⟩ := a
  unfold Ev.v
  have Hd : Hid (isVr ak = (decide (ak = 1) || decide (ak = 2))) := Lib.hid (by unfold isVr; simp)
  have Hv : isVr (Ev.mk at_ ak ao).k = isVr ak := rfl
  rw [Hv]
  clear Hv
  generalize isVr ak = fb at *
  generalize h1 : decide (ak = 1) = x1 at *
  generalize h2 : decide (ak = 2) = x2 at *
  have d1 : (ak == 1) = x1 := h1
  have d2 : (ak == 2) = x2 := h2
  clear h1 h2
  cases x1 <;> cases x2
  all_goals
    go_enter Try.func46, Try.ntmps46
    go_wp2_with fail
    go_ret
    exact ⟨ret_bool (by rw [Hd.out]; rfl), below_alloc _ _⟩
set_option maxRecDepth 100000 in
set_option maxHeartbeats 4000000 in
theorem data_any (a b : Ev) (w : World) : Calls Try.prog 34 #[a.v, b.v] w fun e w' => e = .returned (.bool (dat a b)) ∧ Below w.heap.size w w' := by
  obtain ⟨at_, ak, ao⟩ := a
  obtain ⟨bt, bk, bo⟩ := b
  have S1 := Lib.hid (fun W => shared_any ⟨at_, ak, ao⟩ W)
  have S2 := Lib.hid (fun W => shared_any ⟨bt, bk, bo⟩ W)
  unfold Ev.v at *
  have Hd : Hid (dat ⟨at_, ak, ao⟩ ⟨bt, bk, bo⟩ = (isVr (Ev.mk at_ ak ao).k && isVr (Ev.mk bt bk bo).k && decide (ao = bo) && (decide (ak = 2) || decide (bk = 2)))) := Lib.hid rfl
  generalize dat ⟨at_, ak, ao⟩ ⟨bt, bk, bo⟩ = fb at *
  generalize isVr (Ev.mk at_ ak ao).k = y1 at *
  generalize isVr (Ev.mk bt bk bo).k = y2 at *
  simp only at S1 S2
  generalize h1 : decide (ao = bo) = x1 at *
  generalize h2 : decide (ak = 2) = x2 at *
  generalize h3 : decide (bk = 2) = x3 at *
  have d1 : (ao == bo) = x1 := h1
  have d2 : (ak == 2) = x2 := h2
  have d3 : (bk == 2) = x3 := h3
  clear h1 h2 h3
  go_enter Try.func34, Try.ntmps34
  go_wp2_with fail
  refine (S1.out _).mono ?_
  rintro e w1 ⟨rfl, hb1⟩
  generalize hw2 : World.alloc (World.alloc _ _) _ = w2 at *
  have k0 : w1.heap[w.heap.size + 1]? = some (.cells #[.int .i64 bt, .int .i64 bk, .int .i64 bo] 24 (0, 0)) := by
    refine (hb1.block (w.heap.size + 1) (by subst hw2; simp)).trans ?_
    subst hw2
    have := heap_alloc_new (w.alloc (.cells #[.int .i64 at_, .int .i64 ak, .int .i64 ao] 24)) (.cells #[.int .i64 bt, .int .i64 bk, .int .i64 bo] 24)
    rwa [World.size_alloc] at this
  have k1 : w1.heap[w.heap.size]? = some (.cells #[.int .i64 at_, .int .i64 ak, .int .i64 ao] 24 (0, 0)) := (hb1.block w.heap.size (by subst hw2; simp; omega)).trans (by subst hw2; exact (Below.heap_alloc (w.alloc (.cells #[.int .i64 at_, .int .i64 ak, .int .i64 ao] 24)) _ w.heap.size (by simp)).trans (heap_alloc_new w (.cells #[.int .i64 at_, .int .i64 ak, .int .i64 ao] 24)))
  have B0 : Below w.heap.size w w1 := by
    have : Below w.heap.size w w2 := by subst hw2; exact ((Below.refl _ _).alloc (Nat.le_refl _) _).alloc (by simp) _
    exact this.trans (hb1.mono this.size)
  have HC : Hid (∀ W, Below w1.heap.size w1 W → W.cell? ⟨w.heap.size + 1, 0, none⟩ = some (.int .i64 bt) ∧ W.cell? ⟨w.heap.size + 1, 1, none⟩ = some (.int .i64 bk) ∧ W.cell? ⟨w.heap.size + 1, 2, none⟩ = some (.int .i64 bo) ∧ W.cell? ⟨w.heap.size, 0, none⟩ = some (.int .i64 at_) ∧ W.cell? ⟨w.heap.size, 1, none⟩ = some (.int .i64 ak) ∧ W.cell? ⟨w.heap.size, 2, none⟩ = some (.int .i64 ao)) :=
    Lib.hid fun W h => by
      have e0 := (h.block _ (lt_blk k0)).trans k0
      have e1 := (h.block _ (lt_blk k1)).trans k1
      refine ⟨?_, ?_, ?_, ?_, ?_, ?_⟩ <;> first | (rw [cell_blk (T := 24) e0]; rfl) | (rw [cell_blk (T := 24) e1]; rfl)
  clear k0 k1 hw2 hb1
  have HB0 := Lib.hid B0
  clear B0
  obtain ⟨z1, z2, z3, z4, z5, z6⟩ := HC.out w1 (Below.refl _ _)
  cases y1
  · go_wp2_with fail
    go_ret
    exact ⟨ret_bool (by rw [Hd.out]; rfl), HB0.out⟩
  · go_wp2_with fail
    refine (S2.out _).mono ?_
    rintro e w3 ⟨rfl, hb3⟩
    clear z1 z2 z3 z4 z5 z6
    obtain ⟨z1, z2, z3, z4, z5, z6⟩ := HC.out w3 hb3
    have HB3 := Lib.hid (HB0.out.trans (hb3.mono HB0.out.size))
    clear hb3
    cases y2 <;> cases x1 <;> cases x2
    all_goals
      go_wp2_with fail
      go_ret
      exact ⟨ret_bool (by rw [Hd.out]; first | rfl | (cases x3 <;> rfl)), HB3.out⟩
end Go.Proofs.Ytkcpoebepiipoaa
