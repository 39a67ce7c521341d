/- code.sameNode, slices.EqualFunc at nodes, code.sameBody, slices.EqualFunc at bodies, code.Same. -/
import Derived.Test.YtbmpjphemjponaaVb
set_option linter.unusedSimpArgs false
set_option linter.unusedVariables false
namespace Go.Proofs.Ytbmpjphemjponaa
open Go.RowKit

/-- two boxes, and what they hold in whatever world comes. -/
theorem two_boxes {w : World} {cs ds : Array Value} {T : TypeId} (w1 : World) (h : Below ((w.alloc (.cells cs T)).alloc (.cells ds T)).heap.size ((w.alloc (.cells cs T)).alloc (.cells ds T)) w1) :
    (∀ W, Below w1.heap.size w1 W → ∀ j, W.cell? ⟨w.heap.size, j, none⟩ = cs[j]? ∧ W.cell? ⟨w.heap.size + 1, j, none⟩ = ds[j]?) ∧ Below w.heap.size w w1 := by
  have hs : ((w.alloc (.cells cs T)).alloc (.cells ds T)).heap.size = w.heap.size + 2 := by simp
  have k0 : w1.heap[w.heap.size + 1]? = some (.cells ds T (0, 0)) := by
    refine (h.block (w.heap.size + 1) (by omega)).trans ?_
    have := heap_alloc_new (w.alloc (.cells cs T)) (.cells ds T)
    rwa [World.size_alloc] at this
  have k1 : w1.heap[w.heap.size]? = some (.cells cs T (0, 0)) := (h.block w.heap.size (by omega)).trans ((Below.heap_alloc (w.alloc (.cells cs T)) _ w.heap.size (by simp)).trans (heap_alloc_new w (.cells cs T)))
  have b : Below w.heap.size w ((w.alloc (.cells cs T)).alloc (.cells ds T)) := ((Below.refl _ _).alloc (Nat.le_refl _) _).alloc (by simp) _
  refine ⟨fun W hW j => ?_, b.trans (h.mono b.size)⟩
  have e0 := (hW.block _ (lt_blk k0)).trans k0
  have e1 := (hW.block _ (lt_blk k1)).trans k1
  exact ⟨by rw [cell_blk (T := T) e1], by rw [cell_blk (T := T) e0]⟩
def ndv (n : Nd) (p : Slc) : Value := .agg #[.slice p.1 n.code.length p.2, .int .i64 n.kind, .int .i64 n.arg, .int .i64 n.next, .int .i64 n.alt]
set_option maxRecDepth 100000 in
set_option maxHeartbeats 4000000 in
theorem same_node (n m : Nd) (hl : n.code.length ≤ 4000000) (hl2 : m.code.length ≤ 4000000) (p q : Slc) (B : Nat) (w : World) (h1 : InsAt w B p n.code) (h2 : InsAt w B q m.code) (hB : B ≤ w.heap.size) :
    Calls Try.prog 65 #[ndv n p, ndv m q] w fun e w' => e = .returned (.bool (Nd.eq n m)) ∧ Below w.heap.size w w' := by
  have HE := Lib.hid (fun W (h : Below w.heap.size w W) => equal_instrs n.code m.code n.code.length m.code.length rfl rfl hl hl2 p q B W (h1.below (h.mono hB)) (h2.below (h.mono hB)) (Nat.le_trans hB h.size))
  have HN : Hid (Nd.eq n m = (eqL Ins.eq n.code m.code && (decide (n.kind = m.kind) && (decide (n.arg = m.arg) && (decide (n.next = m.next) && decide (n.alt = m.alt)))))) := Lib.hid rfl
  unfold ndv
  generalize Nd.eq n m = res at *
  generalize eqL Ins.eq n.code m.code = r at *
  obtain ⟨c1, k1, a1, x1, y1⟩ := n
  obtain ⟨c2, k2, a2, x2, y2⟩ := m
  dsimp only at *
  clear h1 h2
  generalize c1.length = l1 at *
  generalize c2.length = l2 at *
  generalize hd0 : decide (k1 = k2) = e0 at *
  generalize hd1 : decide (a1 = a2) = e1 at *
  generalize hd2 : decide (x1 = x2) = e2 at *
  generalize hd3 : decide (y1 = y2) = e3 at *
  have f0 : (k1 == k2) = e0 := hd0
  have f1 : (a1 == a2) = e1 := hd1
  have f2 : (x1 == x2) = e2 := hd2
  have f3 : (y1 == y2) = e3 := hd3
  clear hd0 hd1 hd2 hd3
  go_enter Try.func65, Try.ntmps65
  go_wp2_with fail
  refine (HE.out _ (((Below.refl _ _).alloc (Nat.le_refl _) _).alloc (by simp) _)).mono ?_
  rintro e w1 ⟨rfl, hb1⟩
  obtain ⟨hc, hb⟩ := two_boxes w1 hb1
  have HB := Lib.hid hb
  have z := fun j => (hc w1 (Below.refl _ _) j)
  have u1 := (z 1).1; have u2 := (z 2).1; have u3 := (z 3).1; have u4 := (z 4).1
  have v1 := (z 1).2; have v2 := (z 2).2; have v3 := (z 3).2; have v4 := (z 4).2
  simp only [List.getElem?_toArray, List.getElem?_cons_succ, List.getElem?_cons_zero] at u1 u2 u3 u4 v1 v2 v3 v4
  clear z hc hb hb1 HE
  cases r
  · go_wp2_with fail
    go_ret
    exact ⟨ret_bool (by rw [HN.out]; rfl), HB.out⟩
  · cases e0
    · go_wp2_with fail
      go_ret
      exact ⟨ret_bool (by rw [HN.out]; rfl), HB.out⟩
    · cases e1
      · go_wp2_with fail
        go_ret
        exact ⟨ret_bool (by rw [HN.out]; rfl), HB.out⟩
      · cases e2
        · go_wp2_with fail
          go_ret
          exact ⟨ret_bool (by rw [HN.out]; rfl), HB.out⟩
        · go_wp2_with fail
          go_ret
          exact ⟨ret_bool (by rw [HN.out]; first | rfl | (cases e3 <;> rfl)), HB.out⟩
end Go.Proofs.Ytbmpjphemjponaa
