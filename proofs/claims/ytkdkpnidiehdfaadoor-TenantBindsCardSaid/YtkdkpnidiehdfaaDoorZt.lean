/- slices.AppendSeq, Collect, Sorted over such an iterator. -/
import Derived.Test.YtkdkpnidiehdfaaDoorYs
import Derived.Test.YtkdkpnidiehdfaaDoorSi
import Derived.Test.YtkdkpnidiehdfaaDoorZa
set_option linter.unusedSimpArgs false
set_option linter.unusedVariables false
namespace Go.Proofs.YtkdkpnidiehdfaaDoor
open Go.RowKit Go.Shelf

attribute [local go_sem] Oper.semAt_some

set_option maxRecDepth 100000 in
set_option maxHeartbeats 4000000 in
theorem appendSeq_z (n : Nat) (hn : 2 ≤ n) (g : Nat) (lb : Array Value) (eg : ∀ args w, (callFunc g args).run Tryd.prog w = .ok (.enter g args) w) (S : List Int → Prop) (N : Nat) (hN : N ≤ 1000000) (w : World) (hseq : SeqZ Tryd.prog (n - 1) g lb S N w) :
    CallsIn Fence.wide n Tryd.prog 78 #[.slice none 0 0, .func (.func g) #[] lb] w fun e w' => ∃ v ss, e = .returned v ∧ S ss ∧ w'.ownsRow w.heap.size 3 1 v ss.length (ss.map encZ) ∧ Below w.heap.size w w' := by
  obtain ⟨i0, hi, hz0, hz1, hz2⟩ := info_parts infoZ
  refine callsIn_of_wp_marks Tryd.func78 rfl trivial ?_ rfl
  simp only [Tryd.ntmps78, List.size_toArray, List.length_cons, List.length_nil, Nat.reduceAdd, Nat.reduceSub, Array.replicate_succ, Array.replicate_zero, List.push_toArray, List.append_toArray, List.nil_append, List.cons_append]
  gi_wp2
  have bO := Boxed.new w 60 (.slice none 0 0)
  have hB0 := (Below.refl _ w).alloc (Nat.le_refl _) (.cells #[.slice none 0 0] 60)
  have hsz : (w.alloc (.cells #[.slice none 0 0] 60)).heap.size = w.heap.size + 1 := by simp
  obtain ⟨W0, hW0⟩ : ∃ W0, w.alloc (.cells #[.slice none 0 0] 60) = W0 := ⟨_, rfl⟩
  rw [hW0] at bO hB0 hsz ⊢
  clear hW0
  refine rangeFunc_z (by omega) (gf := g) (lb := lb) rfl eg hseq hB0 rfl
    (fun pre W => (∃ v, Boxed W w.heap.size 60 v ∧ W.ownsRow w.heap.size 3 1 v pre.length (pre.map encZ) ∧ True) ∧ Below w.heap.size w W)
    (OwnFrom.and (Own.from (holdsRow_own w.heap.size w.heap.size 60 3 1 (fun pre : List Int => pre.length) (fun pre => pre.map encZ) (fun _ _ => True)) _) (ownFrom_below (Nat.le_refl _) (by omega)))
    ⟨⟨_, bO, World.ownsRow_nil _ _ _ _, trivial⟩, hB0⟩
    (fun x => { tmps := #[.slice none 0 0, .func (.func g) #[] lb, .pointer (some ⟨w.heap.size, 0, none⟩), undef, .slice none 0 0, encZ x, .func (.func g) #[] lb, encZ x, undef, undef, undef, undef, undef], defers := [] })
    ?assign ?body ?done
  case assign =>
    intro l x W K hK
    gi_wp2
    exact hK
  case body =>
    rintro l pre x W ⟨⟨v, hv, hrow, _⟩, hB⟩ hlt
    have hc := hv.cell
    have hsw := hB.size
    gi_wp2_with (gi_at_builtin; refine wpListIn_append_own _ rfl _ _ 60 rfl w.heap.size 3 i0 (.int .i64 0) 1 8 Tryd.underlying60 hi hz0 hz1 hz2 rfl (by decide) _ _ _ rfl (hrow.alloc _) ⟨W.heap.size, 0, none⟩ 1 1 [encZ x] rfl rfl (cell_one_z _ _ _) (by simp [Value.oneCell', encZ]) (by have : maxLen = 9223372036854775807 := rfl; omega) (by omega) (by simp; omega) ?_; intro v' w2 hown' hgrow _; obtain ⟨g', cap', rfl⟩ := ownsRow_succ hown'; obtain ⟨hv1', hv2, hr2, hk2, hb2⟩ := hv.appended (by decide) hrow hsw (by omega) hown' hgrow; have hc1 := hv1'.cell; have hf1 := hv1'.frozen)
    refine ⟨hk2, hb2, ?_, ⟨_, hv2, by rw [List.map_append, List.length_append]; exact hr2, trivial⟩, hB.trans hb2⟩
    intro k u hk
    have hk1 : Boxed w2 k 111 u := (hk.alloc _).kept hgrow (hk.not_row (by decide) hrow)
    refine hk1.other ?_ _
    rintro rfl
    have e1 : W.heap[w.heap.size]? = _ := hk
    rw [show W.heap[w.heap.size]? = _ from hv] at e1
    injection e1 with e1; injection e1 with _ e1 _; cases e1
  case done =>
    rintro D ys W hD hS ⟨⟨v, hv, hrow, _⟩, hB⟩ hK
    have hc := hv.cell
    gi_wp2
    refine ⟨by simp, .inl ⟨_, _, rfl, run_takeDeferred hK, ?_⟩⟩
    exact ⟨_, results_tmp rfl _ _ _, v, ys, rfl, hS, ownsRow_putObj hrow _ hK rfl, hB.trans (belowK_b (w := w) (Nat.le_refl _) W D _ _ (by omega) hK rfl rfl)⟩
set_option maxHeartbeats 1000000 in
theorem collect_z (n : Nat) (hn : 3 ≤ n) (g : Nat) (lb : Array Value) (eg : ∀ args w, (callFunc g args).run Tryd.prog w = .ok (.enter g args) w) (S : List Int → Prop) (N : Nat) (hN : N ≤ 1000000) (w : World) (hseq : SeqZ Tryd.prog (n - 1 - 1) g lb S N w) :
    CallsIn Fence.wide n Tryd.prog 74 #[.func (.func g) #[] lb] w fun e w' => ∃ v ss, e = .returned v ∧ S ss ∧ w'.ownsRow w.heap.size 3 1 v ss.length (ss.map encZ) ∧ Below w.heap.size w w' := by
  have h1 : 1 ≤ n := by omega
  have hf1 : Fence.wide.fn 78 := trivial
  have HC := Lib.hid (appendSeq_z (n - 1) (by omega) g lb eg S N hN w hseq)
  refine callsIn_of_wp Tryd.func74 rfl trivial ?_ rfl
  simp only [Tryd.ntmps74, List.size_toArray, List.length_cons, List.length_nil, Nat.reduceAdd, Nat.reduceSub, Array.replicate_succ, Array.replicate_zero, List.push_toArray, List.append_toArray, List.nil_append, List.cons_append]
  gi_wp2_with (gi_at_call 78; refine HC.out.mono ?_; rintro e w' ⟨v, ss, rfl, hS, hrow, hb⟩)
  go_ret
  exact ⟨v, ss, rfl, hS, hrow, hb⟩
set_option maxHeartbeats 1000000 in
theorem sorted_z (n : Nat) (hn : 4 ≤ n) (g : Nat) (lb : Array Value) (eg : ∀ args w, (callFunc g args).run Tryd.prog w = .ok (.enter g args) w) (S : List Int → Prop) (N : Nat) (hN : N ≤ 1000000) (w : World) (hseq : SeqZ Tryd.prog (n - 1 - 1 - 1) g lb S N w)
    (hS0 : ∀ ss, S ss → ss.length ≤ 1000000) :
    CallsIn Fence.wide n Tryd.prog 65 #[.func (.func g) #[] lb] w fun e w' => ∃ v ss, e = .returned v ∧ S ss ∧ w'.ownsRow w.heap.size 3 1 v ss.length ((ss.mergeSort fun x y => decide (x ≤ y)).map encZ) ∧ Below w.heap.size w w' := by
  have h1 : 1 ≤ n := by omega
  have hf1 : Fence.wide.fn 74 := trivial
  have hf2 : Fence.wide.fn 75 := trivial
  have HC := Lib.hid (collect_z (n - 1) (by omega) g lb eg S N hN w hseq)
  refine callsIn_of_wp Tryd.func65 rfl trivial ?_ rfl
  simp only [Tryd.ntmps65, List.size_toArray, List.length_cons, List.length_nil, Nat.reduceAdd, Nat.reduceSub, Array.replicate_succ, Array.replicate_zero, List.push_toArray, List.append_toArray, List.nil_append, List.cons_append]
  gi_wp2_with (gi_at_call 74; refine HC.out.mono ?_; rintro e W ⟨v, ss, rfl, hS, hrow, hb⟩)
  have hl := hS0 ss hS
  rcases hrow.2 with ⟨rfl, hz⟩ | ⟨gb, cap, cur, rfl, hbase, hgb, r1, r2, r3, r4⟩
  · obtain rfl : ss = [] := List.eq_nil_of_length_eq_zero hz
    have HN := Lib.hid (callsIn_wide (n := n - 1).2 (sort_none none 0 W))
    gi_wp2_with (gi_at_call 75; refine HN.out.mono ?_; rintro e w' ⟨rfl, rfl⟩)
    go_ret
    exact ⟨_, [], rfl, hS, by simpa using hrow, hb⟩
  · have hH : Sort.Holds encZ W gb 0 ss.toArray := holds_of_block_i hgb (by simpa using r4)
    have hgl : gb < W.heap.size := (Array.getElem?_eq_some_iff.1 hgb).1
    have HS := Lib.hid (callsIn_wide (n := n - 1).2 (sort_ints gb 0 cap ss W hH hgl (by omega)))
    gi_wp2_with (gi_at_call 75; refine HS.out.mono ?_; rintro e w' ⟨rfl, nn, os, rfl⟩)
    go_ret
    exact ⟨_, ss, rfl, hS, ownsRow_sorted_i (by simp) hbase hgb r1 r2 r3, hb.grown (grownBy_sorted_i _) hb.size (fun j hj => by cases hj; exact hbase)⟩
end Go.Proofs.YtkdkpnidiehdfaaDoor
