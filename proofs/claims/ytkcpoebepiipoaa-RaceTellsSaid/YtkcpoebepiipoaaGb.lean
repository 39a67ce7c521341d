/- race.gathered: the pairs of which something holds. -/
import Derived.Test.YtkcpoebepiipoaaGa
import Derived.Test.YtkcpoebepiipoaaAs
set_option linter.unusedSimpArgs false
set_option linter.unusedVariables false
namespace Go.Proofs.Ytkcpoebepiipoaa
open Go.RowKit Go.Shelf

attribute [local go_sem] Oper.semAt_some

def prcells (ps : List (Nat × Nat)) : List Value := ps.flatMap fun p => [.int .i64 p.1, .int .i64 p.2]
theorem prcells_app (a b : List (Nat × Nat)) : prcells (a ++ b) = prcells a ++ prcells b := by simp [prcells]
/-- what a function value says of pairs. -/
def IsP (k : Nat) (caps : Array Value) (d : Nat → Nat → Bool) (len : Nat) (w0 : World) : Prop := ∀ (W : World) (i j : Nat), Below w0.heap.size w0 W → i < j → j < len →
  Calls Try.prog k (#[prv (i, j)] ++ caps) W fun e W' => e = .returned (.bool (d i j)) ∧ Below W.heap.size W W'
theorem infoP : (Try.prog.info? 45).map (fun i => (i.zero, i.size, i.bytes)) = some (some (.agg #[.int .i64 0, .int .i64 0]), 2, 16) := by kernel_rfl
def sifted (d : Nat → Nat → Bool) (ps : List (Nat × Nat)) : List (Nat × Nat) := ps.filter fun p => d p.1 p.2

theorem upTo_length (l : List Ev) : ∀ n, (upTo l n).length ≤ n * n
  | 0 => by simp [upTo]
  | n + 1 => by
    have h := upTo_length l n
    have h2 : (upRow l n n).length ≤ n := by
      unfold upRow
      rw [List.length_map]
      exact Nat.le_trans (List.length_filter_le _ _) (by simp)
    rw [upTo_succ, List.length_append]
    have : (n + 1) * (n + 1) = n * n + n + n + 1 := by
      rw [Nat.add_mul, Nat.mul_add]; omega
    omega
theorem cells_own (B : Nat) (cs : Array Value) (t : TypeId) : Own (fun (_ : Unit) W => W.heap[B]? = some (.cells cs t (0, 0))) := fun s X Y row h hg hr =>
  (hg.block B (Array.getElem?_eq_some_iff.1 h).1 (fun e => by obtain ⟨o, ho, hc⟩ := hr B e.symm; rw [h] at ho; cases ho; cases hc)).trans h
theorem cell_two_new (w : World) (x y : Value) (t : TypeId) : ∀ j u, [x, y][j]? = some u → (w.alloc (.cells #[x, y] t)).cell? ((⟨w.heap.size, 0, none⟩ : Addr).add j) = some u := by
  intro j u hj
  match j, hj with
  | 0, hj => simp at hj; subst hj; simp [Addr.add]
  | 1, hj => simp at hj; subst hj; simp [Addr.add]
theorem grownBy_of_below {w w' : World} (hb : Below w.heap.size w w') (row : Option Nat) : w.grownBy w' row := ⟨hb.os, hb.tape, hb.output, hb.size, fun k h _ => hb.block k h⟩
theorem sifted_yes {d : Nat → Nat → Bool} (ps : List (Nat × Nat)) (i j : Nat) (h : d i j = true) : sifted d (ps ++ [(i, j)]) = sifted d ps ++ [(i, j)] := by simp [sifted, h]
theorem sifted_no {d : Nat → Nat → Bool} (ps : List (Nat × Nat)) (i j : Nat) (h : d i j = false) : sifted d (ps ++ [(i, j)]) = sifted d ps := by simp [sifted, h]

set_option maxRecDepth 100000 in
set_option maxHeartbeats 4000000 in
theorem gathered_26 (l : List Ev) (hl : l.length ≤ 2000) (A : Option Addr) (cap : Nat) (caps : Array Value) (d : Nat → Nat → Bool) (w : World) (hA : Evs w w.heap.size A l) (hd : IsP 26 caps d l.length w) :
    Calls Try.prog 25 #[.slice A l.length cap, .func (.func 26) #[] caps] w fun e W' => ∃ v, e = .returned v ∧ W'.ownsRow w.heap.size 45 2 v (sifted d (upTo l l.length)).length (prcells (sifted d (upTo l l.length))) ∧ Below w.heap.size w W' := by
  obtain ⟨i0, hi, hz0, hz1, hz2⟩ := info_parts infoP
  have HA := Lib.hid hA; have HD := Lib.hid hd
  clear hA hd
  refine (callsIn_wide (n := 3)).1 ?_
  refine callsIn_of_wp_marks Try.func25 rfl trivial ?_ rfl
  simp only [Try.ntmps25, List.size_toArray, List.length_cons, List.length_nil, Nat.reduceAdd, Nat.reduceSub, Array.replicate_succ, Array.replicate_zero, List.push_toArray, List.append_toArray, List.nil_append, List.cons_append]
  gi_wp2_with (refine ⟨trivial, ?_⟩; gi_at_call 42; refine (pairs_in _ _ _ _ _).mono ?_; rintro e w' ⟨rfl, rfl⟩)
  have bF := ((Boxed.new w 60 (.func (.func 26) #[] caps)).alloc (.cells #[.slice none 0 0] 26)).alloc (.cells #[.slice A l.length cap] 22)
  have bO := (Boxed.new (w.alloc (.cells #[.func (.func 26) #[] caps] 60)) 26 (.slice none 0 0)).alloc (.cells #[.slice A l.length cap] 22)
  have bL := Boxed.new ((w.alloc (.cells #[.func (.func 26) #[] caps] 60)).alloc (.cells #[.slice none 0 0] 26)) 22 (.slice A l.length cap)
  simp only [World.size_alloc] at bO bL
  have hB0 : Below w.heap.size w (((w.alloc (.cells #[.func (.func 26) #[] caps] 60)).alloc (.cells #[.slice none 0 0] 26)).alloc (.cells #[.slice A l.length cap] 22)) := (((Below.refl _ w).alloc (Nat.le_refl _) _).alloc (by simp) _).alloc (by simp; omega) _
  have hsz : (((w.alloc (.cells #[.func (.func 26) #[] caps] 60)).alloc (.cells #[.slice none 0 0] 26)).alloc (.cells #[.slice A l.length cap] 22)).heap.size = w.heap.size + 3 := by simp
  obtain ⟨W0, hW0⟩ : ∃ W0, ((w.alloc (.cells #[.func (.func 26) #[] caps] 60)).alloc (.cells #[.slice none 0 0] 26)).alloc (.cells #[.slice A l.length cap] 22) = W0 := ⟨_, rfl⟩
  rw [hW0] at bF bO bL hB0 hsz ⊢
  clear hW0
  refine wpIn_rangeFunc_ownH rfl (by omega) (gf := 49) (lb := #[.pointer (some ⟨w.heap.size + 1 + 1, 0, none⟩)]) rfl trivial (enters_of Try.func49 (by kernel_rfl) rfl)
    (pairs_stops (3 - 1) (by omega) (w.heap.size + 1 + 1) w.heap.size l (by omega) A cap W0 bL.cell (by omega) (by omega) (HA.out.below hB0)) KpB.trans (KpB.put (by omega) (by omega)) (Below.refl _ _) (fun _ => rfl)
    (fun pre W => (((∃ v, Boxed W (w.heap.size + 1) 26 v ∧ W.ownsRow w.heap.size 45 2 v (sifted d (pre.map Subtype.val)).length (prcells (sifted d (pre.map Subtype.val))) ∧ True) ∧ Boxed W w.heap.size 60 (.func (.func 26) #[] caps)) ∧ Boxed W (w.heap.size + 1 + 1) 22 (.slice A l.length cap)) ∧ Below w.heap.size w W)
    (fun _ _ _ => False)
    (OwnFrom.and (OwnFrom.and (OwnFrom.and (Own.from (holdsRow_own w.heap.size (w.heap.size + 1) 26 45 2 (fun pre : List (Pr l.length) => (sifted d (pre.map Subtype.val)).length) (fun pre => prcells (sifted d (pre.map Subtype.val))) (fun _ _ => True)) _) (Own.from (boxed_own _ _ _) _)) (Own.from (boxed_own _ _ _) _)) (ownFrom_below (Nat.le_refl _) (by omega)))
    (fun _ _ _ _ _ hs _ _ => hs)
    ⟨⟨⟨⟨_, bO, World.ownsRow_nil _ _ _ _, trivial⟩, bF⟩, bL⟩, hB0⟩
    (fun x a' W => ∃ Bx, w.heap.size + 1 < Bx ∧ W.heap[Bx]? = some (.cells #[.int .i64 x.1.1, .int .i64 x.1.2] 45 (0, 0)) ∧ a' = { tmps := #[.slice A l.length cap, .func (.func 26) #[] caps, undef, .pointer (some ⟨w.heap.size, 0, none⟩), .slice none 0 0, .pointer (some ⟨w.heap.size + 1, 0, none⟩), .pointer (some ⟨Bx, 0, none⟩), .slice A l.length cap, .func (.func 49) #[] #[.pointer (some ⟨w.heap.size + 1 + 1, 0, none⟩)], .agg #[.int .i64 x.1.1, .int .i64 x.1.2], undef, undef, undef, undef, undef, undef, undef, undef], defers := [] })
    (fun x a' _ X Y row hs hg hr => by obtain ⟨Bx, h1, h2, h3⟩ := hs; exact ⟨Bx, h1, cells_own Bx _ _ () X Y row h2 hg (fun r e => (hr r e).2), h3⟩)
    ?assign ?body ?done ?stop
  case assign =>
    rintro y pre ⟨⟨i, j⟩, hx⟩ W K ⟨⟨⟨⟨v, hv, hrow, _⟩, hF⟩, hL⟩, hB⟩ hK
    simp only [prv]
    gi_wp2
    exact hK _ _ ((KeepsOthers.alloc _ _).from _) (KpB.ext (below_alloc _ _) hB.size hL.lt) ⟨⟨⟨⟨v, hv.alloc _, hrow.alloc _, trivial⟩, hF.alloc _⟩, hL.alloc _⟩, hB.alloc hB.size _⟩ ⟨W.heap.size, hv.lt, World.alloc_heap_new W _, rfl⟩
  case body =>
    rintro y pre ⟨⟨i, j⟩, hx1, hx2⟩ a' W hy ⟨r, hr⟩ ⟨⟨⟨⟨v, hv, hrow, _⟩, hF⟩, hL⟩, hB⟩ ⟨Bx, hBx, hX, rfl⟩ hlt
    have HI := Lib.hid (HD.out W i j hB hx1 hx2)
    simp only at hX
    have c0 := hF.cell
    have c1 : W.cell? ⟨Bx, 0, none⟩ = some (.int .i64 i) := by rw [cell_blk (T := 45) hX]; rfl
    have c2 : W.cell? ⟨Bx, 1, none⟩ = some (.int .i64 j) := by rw [cell_blk (T := 45) hX]; rfl
    have Hv := Lib.hid hv; have Hrow := Lib.hid hrow; have HF := Lib.hid hF; have HL := Lib.hid hL; have HB := Lib.hid hB; have HX := Lib.hid hX
    clear hv hrow hF hL hB hX hr
    gi_wp2_with (refine ⟨trivial, ?_⟩; gi_at_call 26; refine (CallsIn.inRound y (callsIn_wide.2 HI.out)).mono ?_)
    rintro e w1 rfl hb
    have hsz1 : w.heap.size ≤ w1.heap.size := Nat.le_trans HB.out.size hb.size
    have hv1 : Boxed w1 (w.heap.size + 1) 26 v := (hb.block _ Hv.out.lt).trans Hv.out
    have hF1 : Boxed w1 w.heap.size 60 (.func (.func 26) #[] caps) := (hb.block _ HF.out.lt).trans HF.out
    have hL1 : Boxed w1 (w.heap.size + 1 + 1) 22 (.slice A l.length cap) := (hb.block _ HL.out.lt).trans HL.out
    have hX1 : w1.heap[Bx]? = some (.cells #[.int .i64 i, .int .i64 j] 45 (0, 0)) := (hb.block _ (lt_blk HX.out)).trans HX.out
    have hrow1 := own_belowS Hrow.out hb
    have hB1 := HB.out.trans (hb.mono HB.out.size)
    have HKF : Hid (KeepsFrom W0.heap.size W w1) := Lib.hid ((KeepsOthers.of_grownBy (grownBy_of_below hb none) (fun j o e => by cases e)).from _)
    have HKB : Hid (KpB w.heap.size (w.heap.size + 1 + 1) W w1) := Lib.hid (KpB.ext hb HB.out.size HL.out.lt)
    have c0 := hv1.cell
    have c1 : w1.cell? ⟨Bx, 0, none⟩ = some (.int .i64 i) := by rw [cell_blk (T := 45) hX1]; rfl
    have c2 : w1.cell? ⟨Bx, 1, none⟩ = some (.int .i64 j) := by rw [cell_blk (T := 45) hX1]; rfl
    generalize hdd : d i j = dd
    cases dd
    · gi_wp2
      exact ⟨HKF.out, HKB.out, ⟨⟨⟨v, hv1, by rw [List.map_append, List.map_singleton, sifted_no _ _ _ hdd]; exact hrow1, trivial⟩, hF1⟩, hL1⟩, hB1⟩
    · have hlen : (sifted d (pre.map Subtype.val)).length + 1 ≤ 4000000 := by
        have h1 : (sifted d (pre.map Subtype.val)).length ≤ pre.length := by
          have := List.length_filter_le (fun p : Nat × Nat => d p.1 p.2) (pre.map Subtype.val)
          simpa [sifted] using this
        have h2 := upTo_length l l.length
        have h3 : l.length * l.length ≤ 2000 * 2000 := Nat.mul_le_mul hl hl
        omega
      gi_wp2_with (gi_at_builtin; refine wpListIn_append_own _ rfl _ _ 26 rfl w.heap.size 45 i0 (.agg #[.int .i64 0, .int .i64 0]) 2 16 Try.underlying26 hi hz0 hz1 hz2 rfl (by decide) _ _ _ rfl (hrow1.alloc _) ⟨w1.heap.size, 0, none⟩ 1 1 [.int .i64 i, .int .i64 j] rfl rfl (cell_two_new _ _ _ _) (by simp [Value.oneCell']) (Nat.le_trans hlen (by decide)) (by omega) (by simp; omega) ?_; intro v' w2 hown' hgrow _; obtain ⟨g', cap', rfl⟩ := ownsRow_succ hown'; obtain ⟨hv1', hv2, hr2, hk2, hb2⟩ := hv1.appended (by decide) hrow1 hsz1 (by omega) hown' hgrow; have hc1 := hv1'.cell; have hf1 := hv1'.frozen)
      have hF2 := ((hF1.alloc _).kept hgrow (hF1.not_row (by decide) hrow1)).other (B' := w.heap.size + 1) (by omega) (.slice (some ⟨g', 0, none⟩) ((sifted d (pre.map Subtype.val)).length + 1) cap')
      have hL2 := ((hL1.alloc _).kept hgrow (hL1.not_row (by decide) hrow1)).other (B' := w.heap.size + 1) (by omega) (.slice (some ⟨g', 0, none⟩) ((sifted d (pre.map Subtype.val)).length + 1) cap')
      exact ⟨HKF.out.trans (hk2.from _), HKB.out.trans ⟨hb2, hL2.cell.trans hL1.cell.symm⟩, ⟨⟨⟨_, hv2, by rw [List.map_append, List.map_singleton, sifted_yes _ _ _ hdd, prcells_app, List.length_append]; exact hr2, trivial⟩, hF2⟩, hL2⟩, hB1.trans hb2⟩
  case done =>
    rintro D ys W hD hys ⟨⟨⟨⟨v, hv, hrow, _⟩, hF⟩, hL⟩, hB⟩ hK
    rw [hys] at hrow
    have hc := hv.cell
    gi_wp2
    refine ⟨by simp, .inl ⟨_, _, rfl, run_takeDeferred hK, ?_⟩⟩
    exact ⟨_, results_tmp rfl _ _ _, v, rfl, ownsRow_putObj hrow _ hK rfl, hB.trans (belowK_b (w := w) (Nat.le_refl _) W D _ _ (by omega) hK rfl rfl)⟩
  case stop =>
    rintro D c pre W _ _ h _
    exact h.elim
theorem gathered_at_26 (l : List Ev) (m : Nat) (hm : m = l.length) (hl : m ≤ 2000) (A : Option Addr) (cap : Nat) (caps : Array Value) (d : Nat → Nat → Bool) (w : World) (hA : Evs w w.heap.size A l) (hd : IsP 26 caps d m w) :
    Calls Try.prog 25 #[.slice A m cap, .func (.func 26) #[] caps] w fun e W' => ∃ v, e = .returned v ∧ W'.ownsRow w.heap.size 45 2 v (sifted d (upTo l m)).length (prcells (sifted d (upTo l m))) ∧ Below w.heap.size w W' := by
  subst hm
  exact gathered_26 l hl A cap caps d w hA hd
set_option maxRecDepth 100000 in
set_option maxHeartbeats 4000000 in
theorem gathered_33 (l : List Ev) (hl : l.length ≤ 2000) (A : Option Addr) (cap : Nat) (caps : Array Value) (d : Nat → Nat → Bool) (w : World) (hA : Evs w w.heap.size A l) (hd : IsP 33 caps d l.length w) :
    Calls Try.prog 25 #[.slice A l.length cap, .func (.func 33) #[] caps] w fun e W' => ∃ v, e = .returned v ∧ W'.ownsRow w.heap.size 45 2 v (sifted d (upTo l l.length)).length (prcells (sifted d (upTo l l.length))) ∧ Below w.heap.size w W' := by
  obtain ⟨i0, hi, hz0, hz1, hz2⟩ := info_parts infoP
  have HA := Lib.hid hA; have HD := Lib.hid hd
  clear hA hd
  refine (callsIn_wide (n := 3)).1 ?_
  refine callsIn_of_wp_marks Try.func25 rfl trivial ?_ rfl
  simp only [Try.ntmps25, List.size_toArray, List.length_cons, List.length_nil, Nat.reduceAdd, Nat.reduceSub, Array.replicate_succ, Array.replicate_zero, List.push_toArray, List.append_toArray, List.nil_append, List.cons_append]
  gi_wp2_with (refine ⟨trivial, ?_⟩; gi_at_call 42; refine (pairs_in _ _ _ _ _).mono ?_; rintro e w' ⟨rfl, rfl⟩)
  have bF := ((Boxed.new w 60 (.func (.func 33) #[] caps)).alloc (.cells #[.slice none 0 0] 26)).alloc (.cells #[.slice A l.length cap] 22)
  have bO := (Boxed.new (w.alloc (.cells #[.func (.func 33) #[] caps] 60)) 26 (.slice none 0 0)).alloc (.cells #[.slice A l.length cap] 22)
  have bL := Boxed.new ((w.alloc (.cells #[.func (.func 33) #[] caps] 60)).alloc (.cells #[.slice none 0 0] 26)) 22 (.slice A l.length cap)
  simp only [World.size_alloc] at bO bL
  have hB0 : Below w.heap.size w (((w.alloc (.cells #[.func (.func 33) #[] caps] 60)).alloc (.cells #[.slice none 0 0] 26)).alloc (.cells #[.slice A l.length cap] 22)) := (((Below.refl _ w).alloc (Nat.le_refl _) _).alloc (by simp) _).alloc (by simp; omega) _
  have hsz : (((w.alloc (.cells #[.func (.func 33) #[] caps] 60)).alloc (.cells #[.slice none 0 0] 26)).alloc (.cells #[.slice A l.length cap] 22)).heap.size = w.heap.size + 3 := by simp
  obtain ⟨W0, hW0⟩ : ∃ W0, ((w.alloc (.cells #[.func (.func 33) #[] caps] 60)).alloc (.cells #[.slice none 0 0] 26)).alloc (.cells #[.slice A l.length cap] 22) = W0 := ⟨_, rfl⟩
  rw [hW0] at bF bO bL hB0 hsz ⊢
  clear hW0
  refine wpIn_rangeFunc_ownH rfl (by omega) (gf := 49) (lb := #[.pointer (some ⟨w.heap.size + 1 + 1, 0, none⟩)]) rfl trivial (enters_of Try.func49 (by kernel_rfl) rfl)
    (pairs_stops (3 - 1) (by omega) (w.heap.size + 1 + 1) w.heap.size l (by omega) A cap W0 bL.cell (by omega) (by omega) (HA.out.below hB0)) KpB.trans (KpB.put (by omega) (by omega)) (Below.refl _ _) (fun _ => rfl)
    (fun pre W => (((∃ v, Boxed W (w.heap.size + 1) 26 v ∧ W.ownsRow w.heap.size 45 2 v (sifted d (pre.map Subtype.val)).length (prcells (sifted d (pre.map Subtype.val))) ∧ True) ∧ Boxed W w.heap.size 60 (.func (.func 33) #[] caps)) ∧ Boxed W (w.heap.size + 1 + 1) 22 (.slice A l.length cap)) ∧ Below w.heap.size w W)
    (fun _ _ _ => False)
    (OwnFrom.and (OwnFrom.and (OwnFrom.and (Own.from (holdsRow_own w.heap.size (w.heap.size + 1) 26 45 2 (fun pre : List (Pr l.length) => (sifted d (pre.map Subtype.val)).length) (fun pre => prcells (sifted d (pre.map Subtype.val))) (fun _ _ => True)) _) (Own.from (boxed_own _ _ _) _)) (Own.from (boxed_own _ _ _) _)) (ownFrom_below (Nat.le_refl _) (by omega)))
    (fun _ _ _ _ _ hs _ _ => hs)
    ⟨⟨⟨⟨_, bO, World.ownsRow_nil _ _ _ _, trivial⟩, bF⟩, bL⟩, hB0⟩
    (fun x a' W => ∃ Bx, w.heap.size + 1 < Bx ∧ W.heap[Bx]? = some (.cells #[.int .i64 x.1.1, .int .i64 x.1.2] 45 (0, 0)) ∧ a' = { tmps := #[.slice A l.length cap, .func (.func 33) #[] caps, undef, .pointer (some ⟨w.heap.size, 0, none⟩), .slice none 0 0, .pointer (some ⟨w.heap.size + 1, 0, none⟩), .pointer (some ⟨Bx, 0, none⟩), .slice A l.length cap, .func (.func 49) #[] #[.pointer (some ⟨w.heap.size + 1 + 1, 0, none⟩)], .agg #[.int .i64 x.1.1, .int .i64 x.1.2], undef, undef, undef, undef, undef, undef, undef, undef], defers := [] })
    (fun x a' _ X Y row hs hg hr => by obtain ⟨Bx, h1, h2, h3⟩ := hs; exact ⟨Bx, h1, cells_own Bx _ _ () X Y row h2 hg (fun r e => (hr r e).2), h3⟩)
    ?assign ?body ?done ?stop
  case assign =>
    rintro y pre ⟨⟨i, j⟩, hx⟩ W K ⟨⟨⟨⟨v, hv, hrow, _⟩, hF⟩, hL⟩, hB⟩ hK
    simp only [prv]
    gi_wp2
    exact hK _ _ ((KeepsOthers.alloc _ _).from _) (KpB.ext (below_alloc _ _) hB.size hL.lt) ⟨⟨⟨⟨v, hv.alloc _, hrow.alloc _, trivial⟩, hF.alloc _⟩, hL.alloc _⟩, hB.alloc hB.size _⟩ ⟨W.heap.size, hv.lt, World.alloc_heap_new W _, rfl⟩
  case body =>
    rintro y pre ⟨⟨i, j⟩, hx1, hx2⟩ a' W hy ⟨r, hr⟩ ⟨⟨⟨⟨v, hv, hrow, _⟩, hF⟩, hL⟩, hB⟩ ⟨Bx, hBx, hX, rfl⟩ hlt
    have HI := Lib.hid (HD.out W i j hB hx1 hx2)
    simp only at hX
    have c0 := hF.cell
    have c1 : W.cell? ⟨Bx, 0, none⟩ = some (.int .i64 i) := by rw [cell_blk (T := 45) hX]; rfl
    have c2 : W.cell? ⟨Bx, 1, none⟩ = some (.int .i64 j) := by rw [cell_blk (T := 45) hX]; rfl
    have Hv := Lib.hid hv; have Hrow := Lib.hid hrow; have HF := Lib.hid hF; have HL := Lib.hid hL; have HB := Lib.hid hB; have HX := Lib.hid hX
    clear hv hrow hF hL hB hX hr
    gi_wp2_with (refine ⟨trivial, ?_⟩; gi_at_call 33; refine (CallsIn.inRound y (callsIn_wide.2 HI.out)).mono ?_)
    rintro e w1 rfl hb
    have hsz1 : w.heap.size ≤ w1.heap.size := Nat.le_trans HB.out.size hb.size
    have hv1 : Boxed w1 (w.heap.size + 1) 26 v := (hb.block _ Hv.out.lt).trans Hv.out
    have hF1 : Boxed w1 w.heap.size 60 (.func (.func 33) #[] caps) := (hb.block _ HF.out.lt).trans HF.out
    have hL1 : Boxed w1 (w.heap.size + 1 + 1) 22 (.slice A l.length cap) := (hb.block _ HL.out.lt).trans HL.out
    have hX1 : w1.heap[Bx]? = some (.cells #[.int .i64 i, .int .i64 j] 45 (0, 0)) := (hb.block _ (lt_blk HX.out)).trans HX.out
    have hrow1 := own_belowS Hrow.out hb
    have hB1 := HB.out.trans (hb.mono HB.out.size)
    have HKF : Hid (KeepsFrom W0.heap.size W w1) := Lib.hid ((KeepsOthers.of_grownBy (grownBy_of_below hb none) (fun j o e => by cases e)).from _)
    have HKB : Hid (KpB w.heap.size (w.heap.size + 1 + 1) W w1) := Lib.hid (KpB.ext hb HB.out.size HL.out.lt)
    have c0 := hv1.cell
    have c1 : w1.cell? ⟨Bx, 0, none⟩ = some (.int .i64 i) := by rw [cell_blk (T := 45) hX1]; rfl
    have c2 : w1.cell? ⟨Bx, 1, none⟩ = some (.int .i64 j) := by rw [cell_blk (T := 45) hX1]; rfl
    generalize hdd : d i j = dd
    cases dd
    · gi_wp2
      exact ⟨HKF.out, HKB.out, ⟨⟨⟨v, hv1, by rw [List.map_append, List.map_singleton, sifted_no _ _ _ hdd]; exact hrow1, trivial⟩, hF1⟩, hL1⟩, hB1⟩
    · have hlen : (sifted d (pre.map Subtype.val)).length + 1 ≤ 4000000 := by
        have h1 : (sifted d (pre.map Subtype.val)).length ≤ pre.length := by
          have := List.length_filter_le (fun p : Nat × Nat => d p.1 p.2) (pre.map Subtype.val)
          simpa [sifted] using this
        have h2 := upTo_length l l.length
        have h3 : l.length * l.length ≤ 2000 * 2000 := Nat.mul_le_mul hl hl
        omega
      gi_wp2_with (gi_at_builtin; refine wpListIn_append_own _ rfl _ _ 26 rfl w.heap.size 45 i0 (.agg #[.int .i64 0, .int .i64 0]) 2 16 Try.underlying26 hi hz0 hz1 hz2 rfl (by decide) _ _ _ rfl (hrow1.alloc _) ⟨w1.heap.size, 0, none⟩ 1 1 [.int .i64 i, .int .i64 j] rfl rfl (cell_two_new _ _ _ _) (by simp [Value.oneCell']) (Nat.le_trans hlen (by decide)) (by omega) (by simp; omega) ?_; intro v' w2 hown' hgrow _; obtain ⟨g', cap', rfl⟩ := ownsRow_succ hown'; obtain ⟨hv1', hv2, hr2, hk2, hb2⟩ := hv1.appended (by decide) hrow1 hsz1 (by omega) hown' hgrow; have hc1 := hv1'.cell; have hf1 := hv1'.frozen)
      have hF2 := ((hF1.alloc _).kept hgrow (hF1.not_row (by decide) hrow1)).other (B' := w.heap.size + 1) (by omega) (.slice (some ⟨g', 0, none⟩) ((sifted d (pre.map Subtype.val)).length + 1) cap')
      have hL2 := ((hL1.alloc _).kept hgrow (hL1.not_row (by decide) hrow1)).other (B' := w.heap.size + 1) (by omega) (.slice (some ⟨g', 0, none⟩) ((sifted d (pre.map Subtype.val)).length + 1) cap')
      exact ⟨HKF.out.trans (hk2.from _), HKB.out.trans ⟨hb2, hL2.cell.trans hL1.cell.symm⟩, ⟨⟨⟨_, hv2, by rw [List.map_append, List.map_singleton, sifted_yes _ _ _ hdd, prcells_app, List.length_append]; exact hr2, trivial⟩, hF2⟩, hL2⟩, hB1.trans hb2⟩
  case done =>
    rintro D ys W hD hys ⟨⟨⟨⟨v, hv, hrow, _⟩, hF⟩, hL⟩, hB⟩ hK
    rw [hys] at hrow
    have hc := hv.cell
    gi_wp2
    refine ⟨by simp, .inl ⟨_, _, rfl, run_takeDeferred hK, ?_⟩⟩
    exact ⟨_, results_tmp rfl _ _ _, v, rfl, ownsRow_putObj hrow _ hK rfl, hB.trans (belowK_b (w := w) (Nat.le_refl _) W D _ _ (by omega) hK rfl rfl)⟩
  case stop =>
    rintro D c pre W _ _ h _
    exact h.elim
theorem gathered_at_33 (l : List Ev) (m : Nat) (hm : m = l.length) (hl : m ≤ 2000) (A : Option Addr) (cap : Nat) (caps : Array Value) (d : Nat → Nat → Bool) (w : World) (hA : Evs w w.heap.size A l) (hd : IsP 33 caps d m w) :
    Calls Try.prog 25 #[.slice A m cap, .func (.func 33) #[] caps] w fun e W' => ∃ v, e = .returned v ∧ W'.ownsRow w.heap.size 45 2 v (sifted d (upTo l m)).length (prcells (sifted d (upTo l m))) ∧ Below w.heap.size w W' := by
  subst hm
  exact gathered_33 l hl A cap caps d w hA hd
theorem owns_less {w : World} {b b' e sz n : Nat} {v : Value} {xs : List Value} (h : w.ownsRow b e sz v n xs) (hb : b' ≤ b) : w.ownsRow b' e sz v n xs :=
  ⟨h.1, h.2.imp_right fun ⟨g, k, cur, x1, x2, x3⟩ => ⟨g, k, cur, x1, Nat.le_trans hb x2, x3⟩⟩
end Go.Proofs.Ytkcpoebepiipoaa
