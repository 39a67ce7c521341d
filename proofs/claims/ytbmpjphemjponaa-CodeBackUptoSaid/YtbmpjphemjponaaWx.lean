/- assizelaw09.one, CodeKnown. -/
import Derived.Test.YtbmpjphemjponaaWw
import Derived.Test.YtbmpjphemjponaaWl
import Derived.Test.YtbmpjphemjponaaWv
set_option linter.unusedSimpArgs false
set_option linter.unusedVariables false
namespace Go.Proofs.Ytbmpjphemjponaa
open Go.RowKit

theorem bds_one {W : World} {g : Nat} {st : Int} (h : W.heap[g]? = some (.cells #[.slice none 0 0, .int .i64 st, .slice none 0 0] 57 (0, 0))) : BdsAt W W.heap.size (some ⟨g, 0, none⟩, 1) [⟨[], st, []⟩] := by
  refine ⟨fun i hi => ?_, ⟨fun h => (by cases h), Nat.le_refl _⟩⟩
  obtain rfl : i = 0 := by simp at hi; omega
  refine ⟨g, 0, [.slice none 0 0, .int .i64 st, .slice none 0 0], rfl, lt_blk h, rfl, fun j hj => ?_, (none, 0), (none, 0), rfl, ?_, ?_⟩
  · rw [cell_blk h]
    have : j = 0 ∨ j = 1 ∨ j = 2 := by omega
    rcases this with rfl | rfl | rfl <;> rfl
  · exact ⟨fun i hi => absurd hi (Nat.not_lt_zero _), fun _ => rfl, Nat.le_refl _⟩
  · exact ⟨fun i hi => absurd hi (Nat.not_lt_zero _), fun _ => rfl, Nat.le_refl _⟩
def oneC (n : Nd) : Cd := ⟨[⟨1, 0⟩], 0, [⟨[], 1, [n]⟩]⟩
def GotOne (w : World) (n : Nd) (e : Ending) (w' : World) : Prop := ∃ p q : Slc, e = .returned (cdv (oneC n) p q) ∧ VlsAt w' w'.heap.size p (oneC n).shared ∧ BdsAt w' w'.heap.size q (oneC n).bodies ∧ Below w.heap.size w w'
set_option maxRecDepth 100000 in
set_option maxHeartbeats 1000000 in
theorem one_any (n : Nd) (p : Slc) (B : Nat) (w : World) (hc : InsAt w B p n.code) (hB : B ≤ w.heap.size) :
    Calls Try.prog 26 #[ndv n p] w (GotOne w n) := by
  have HC := Lib.hid hc
  clear hc
  have HP : Hid (∀ (a b : Nat) (w' : World), w'.heap[a]? = some (.cells #[.int .u8 1, .int .u64 0] 51 (0, 0)) → ∀ d, w'.heap[d]? = some (.cells (ndc n p).toArray 60 (0, 0)) → w'.heap[b]? = some (.cells #[.slice none 0 0, .int .i64 1, .slice (some ⟨d, 0, none⟩) 1 1] 57 (0, 0)) → Below w.heap.size w w' →
    GotOne w n (.returned (.agg #[.slice (some ⟨a, 0, none⟩) 1 1, .int .i64 0, .slice (some ⟨b, 0, none⟩) 1 1])) w') := Lib.hid (fun a b w' ha d hd hb hbel => by
    refine ⟨(some ⟨a, 0, none⟩, 1), (some ⟨b, 0, none⟩, 1), rfl, ⟨fun i hi => ?_, fun h => (by cases h), Nat.le_refl _⟩, ⟨fun i hi => ?_, fun h => (by cases h), Nat.le_refl _⟩, hbel⟩
    · obtain rfl : i = 0 := by simp [oneC] at hi; omega
      exact ⟨a, 0, [.int .u8 1, .int .u64 0], rfl, lt_blk ha, rfl, fun j hj => by
        rw [cell_blk ha]
        have : j = 0 ∨ j = 1 := by omega
        rcases this with rfl | rfl <;> rfl, rfl⟩
    · obtain rfl : i = 0 := by simp [oneC] at hi; omega
      refine ⟨b, 0, [.slice none 0 0, .int .i64 1, .slice (some ⟨d, 0, none⟩) 1 1], rfl, lt_blk hb, rfl, fun j hj => ?_, (none, 0), (some ⟨d, 0, none⟩, 1), rfl, ⟨fun i hi => absurd hi (Nat.not_lt_zero _), fun _ => rfl, Nat.le_refl _⟩, fun i hi => ?_, fun h => (by cases h), Nat.le_refl _⟩
      · rw [cell_blk hb]
        have : j = 0 ∨ j = 1 ∨ j = 2 := by omega
        rcases this with rfl | rfl | rfl <;> rfl
      · obtain rfl : i = 0 := by simp [oneC] at hi; omega
        refine ⟨d, 0, ndc n p, rfl, lt_blk hd, rfl, fun j hj => ?_, p, rfl, (HC.out.below (hbel.mono hB)).more (Nat.le_trans hB hbel.size)⟩
        rw [cell_blk hd]
        simp)
  unfold ndc at HP
  unfold ndv
  generalize GotOne w n = post at *
  obtain ⟨cd, kind, arg, next, alt⟩ := n
  obtain ⟨A, c⟩ := p
  dsimp only at *
  generalize cd.length = nc at *
  go_enter Try.func26, Try.ntmps26
  go_upto_region 1 with (fail)
  obtain ⟨b0_, b1_, hb_⟩ := boxes2 w (.cells #[.slice A nc c, .int .i64 kind, .int .i64 arg, .int .i64 next, .int .i64 alt] 60) (.cells #[.slice none 0 0, .int .i64 0, .slice none 0 0] 25)
  generalize (w.alloc (.cells #[.slice A nc c, .int .i64 kind, .int .i64 arg, .int .i64 next, .int .i64 alt] 60)).alloc (.cells #[.slice none 0 0, .int .i64 0, .slice none 0 0] 25) = w0 at *
  have T0 : Hid (∀ W, Below w0.heap.size w0 W → W.cell? ⟨w.heap.size, 0, none⟩ = some (.slice A nc c) ∧ W.cell? ⟨w.heap.size, 1, none⟩ = some (.int .i64 kind) ∧ W.cell? ⟨w.heap.size, 2, none⟩ = some (.int .i64 arg) ∧ W.cell? ⟨w.heap.size, 3, none⟩ = some (.int .i64 next) ∧ W.cell? ⟨w.heap.size, 4, none⟩ = some (.int .i64 alt)) := Lib.hid (fun W hW => by have e := (hW.block _ (lt_blk b0_)).trans b0_; exact ⟨by rw [cell_blk e]; rfl, by rw [cell_blk e]; rfl, by rw [cell_blk e]; rfl, by rw [cell_blk e]; rfl, by rw [cell_blk e]; rfl⟩)
  have T2b : Hid (∀ W, Below w0.heap.size w0 W → W.heap[w.heap.size + 1]? = some (.cells #[.slice none 0 0, .int .i64 0, .slice none 0 0] 25 (0, 0))) := Lib.hid (fun W hW => (hW.block _ (lt_blk b1_)).trans b1_)
  have T2 : Hid (∀ W, Below w0.heap.size w0 W → W.cell? ⟨w.heap.size + 1, 0, none⟩ = some (.slice none 0 0) ∧ W.cell? ⟨w.heap.size + 1, 1, none⟩ = some (.int .i64 0) ∧ W.cell? ⟨w.heap.size + 1, 2, none⟩ = some (.slice none 0 0)) := Lib.hid (fun W hW => by have e := (hW.block _ (lt_blk b1_)).trans b1_; exact ⟨by rw [cell_blk e]; rfl, by rw [cell_blk e]; rfl, by rw [cell_blk e]; rfl⟩)
  have B0 := Lib.hid hb_
  clear hb_ b0_ b1_
  obtain ⟨u0, u1, u2, u3, u4⟩ := T0.out (w0.alloc (.cells #[.int .u8 1, .int .u64 0] 51)) (below_alloc _ _)
  have X2 := Lib.hid (T2b.out w0 (Below.refl _ _))
  have hlt : w.heap.size + 1 < w0.heap.size := lt_blk X2.out
  obtain ⟨b1, b2, b3, bb⟩ := boxes3 w0 (.cells #[.int .u8 1, .int .u64 0] 51) (.cells #[.slice A nc c, .int .i64 kind, .int .i64 arg, .int .i64 next, .int .i64 alt] 60) (.cells #[.slice none 0 0, .int .i64 1, .slice (some ⟨w0.heap.size + 1, 0, none⟩) 1 1] 57)
  obtain ⟨c0, c1, c2⟩ := T2.out _ bb
  have fz := fun j => free_blk (T2b.out _ bb) j
  clear T0 T2 T2b
  go_wp2_with fail
  generalize ((w0.alloc (.cells #[.int .u8 1, .int .u64 0] 51)).alloc (.cells #[.slice A nc c, .int .i64 kind, .int .i64 arg, .int .i64 next, .int .i64 alt] 60)).alloc (.cells #[.slice none 0 0, .int .i64 1, .slice (some ⟨w0.heap.size + 1, 0, none⟩) 1 1] 57) = w1 at *
  have Bf := below_set3 w1 (w.heap.size + 1) (.slice (some ⟨w0.heap.size, 0, none⟩) 1 1) (.int .i64 0) (.slice (some ⟨w0.heap.size + 1 + 1, 0, none⟩) 1 1)
  have ho : ∀ k, k ≠ w.heap.size + 1 → (((w1.setCell ⟨w.heap.size + 1, 0, none⟩ (.slice (some ⟨w0.heap.size, 0, none⟩) 1 1)).setCell ⟨w.heap.size + 1, 1, none⟩ (.int .i64 0)).setCell ⟨w.heap.size + 1, 2, none⟩ (.slice (some ⟨w0.heap.size + 1 + 1, 0, none⟩) 1 1)).heap[k]? = w1.heap[k]? := fun k hk => by
    rw [heap_setCell_other _ _ _ _ hk, heap_setCell_other _ _ _ _ hk, heap_setCell_other _ _ _ _ hk]
  have x2 := (bb.block _ hlt).trans X2.out
  have y0 : w1.cell? ⟨w.heap.size + 1, 0, none⟩ = some (.slice none 0 0) := by rw [cell_blk x2]; rfl
  have y1 : w1.cell? ⟨w.heap.size + 1, 1, none⟩ = some (.int .i64 0) := by rw [cell_blk x2]; rfl
  have y2 : w1.cell? ⟨w.heap.size + 1, 2, none⟩ = some (.slice none 0 0) := by rw [cell_blk x2]; rfl
  have hq := HP.out w0.heap.size (w0.heap.size + 1 + 1) _ ((ho _ (by omega)).trans b1) (w0.heap.size + 1) ((ho _ (by omega)).trans b2) ((ho _ (by omega)).trans b3) ((B0.out.trans (bb.mono B0.out.size)).trans (Bf.mono (by omega)))
  exact bodyPost_ret (v := .agg #[.slice (some ⟨w0.heap.size, 0, none⟩) 1 1, .int .i64 0, .slice (some ⟨w0.heap.size + 1 + 1, 0, none⟩) 1 1]) (by simp [results, Try.results26, go_sem, y0, y1, y2]) rfl hq
def kC1 : Cd := oneC ⟨[], 7, 0, 1, 0⟩
def kC2 : Cd := oneC ⟨[], 7, 0, 2, 0⟩
def kC3 : Cd := oneC ⟨[⟨1, 0, ⟨1, 1⟩⟩], 5, 0, 0, 0⟩
def kC4 : Cd := oneC ⟨[⟨31, 0, ⟨0, 0⟩⟩], 2, 0, 0, 0⟩
def c65 : Cd := ⟨[], 0, [⟨[], 65, []⟩]⟩
theorem k_chk : chk c65 = 2 ∧ chk kC1 = 0 ∧ chk kC2 = 2 ∧ chk kC3 = 9 ∧ chk kC4 = 190 := ⟨by decide, by decide, by decide, by decide, by decide⟩
theorem k_read : readL [] = none ∧ readL zero7 = some cd1 := ⟨rfl, rfl⟩
end Go.Proofs.Ytbmpjphemjponaa
