/- slices.Sorted over an iterator that ranges over another one. -/
import Derived.RangeFuncNested
import Derived.RangeFuncBound
import Derived.RangeFuncBox
import Derived.RangeFuncCalls
import Derived.RangeFuncLeaves
import Derived.Shelf.Abstract
import Derived.Shelf.RegionOpen
import Derived.WalkKit
import Derived.OwnWalkIn
import Derived.TacticsInMore
import Derived.LoopNIn
import Derived.LoopIn
import Derived.Maps.AppendAt
import Derived.Test.YtkdkpnidiehdfaaDoorZy
set_option linter.unusedSimpArgs false
set_option linter.unusedVariables false
namespace Go.Proofs.YtkdkpnidiehdfaaDoor
open Go.RowKit Go.Shelf

attribute [local go_sem] Oper.semAt_some

/-- boxed functions stay. -/
def KeepsBox (W W' : World) : Prop := ∀ k u, Boxed W k 111 u → Boxed W' k 111 u
theorem KeepsBox.trans {A B C : World} (h : KeepsBox A B) (k : KeepsBox B C) : KeepsBox A C := fun i u hi => k i u (h i u hi)
theorem KeepsBox.put {W : World} {l : Nat} {o : Obj} (o' : Obj) (h : W.heap[l]? = some o) (hc : o.isCells = false) : KeepsBox W (W.putObj l o') := fun k u hk => by
  have hne : k ≠ l := by
    rintro rfl
    rw [show W.heap[k]? = _ from hk] at h
    cases h; cases hc
  exact (World.putObj_heap_other hne).trans hk
/-- an iterator over numbers: the rounds leave all that is no cells as it was, and all that lay when the iterator was made. -/
def SeqZ (P : Program) (n : Nat) (g : Nat) (lb : Array Value) (S : List Int → Prop) (N : Nat) (w : World) : Prop :=
  ∀ (l : Nat) (J : List Int → World → Prop) (W : World), Below w.heap.size w W → OwnFrom W.heap.size J →
    (∀ pre x W1, J pre W1 → pre.length < N → YieldAt Fence.wide (n - 1) P l #[encZ x] W1 fun e W' => e = .returned (.bool true) ∧ J (pre ++ [x]) W' ∧ KeepsOthers W1 W' ∧ Below w.heap.size W1 W' ∧ KeepsBox W1 W') →
    J [] W →
    CallsIn Fence.wide n P g (#[.func (.yield l) #[] #[]] ++ lb) W fun e W' => (∃ v, e = .returned v) ∧ ∃ xs, S xs ∧ J xs W'
/-- how a round may end. -/
def postZ (B : Nat) (I : List Int → World → Prop) (xs : List Int) (W : World) : Exit → Act → World → Prop
  | .normal, _, W' => KeepsOthers W W' ∧ Below B W W' ∧ KeepsBox W W' ∧ I xs W'
  | _, _, _ => False
theorem below_put {B : Nat} {w : World} (l : Nat) (o : Obj) (hl : l < w.heap.size) (hB : B ≤ l) : Below B w (w.putObj l o) :=
  (Below.refl B w).grown (grownBy_putObj' w l o) (by omega) (fun k e => by cases e; exact hB)
set_option maxHeartbeats 1000000 in
theorem rangeFunc_z {P : Program} {n : Nat} {g : Operand} {ps : Array Tmp} {assign body : Code} {Q : Exit → Act → World → Prop} {a : Act} {w : World} (h1 : 1 ≤ n) {gf : Nat} {lb : Array Value} (hg : a.eval g = .func (.func gf) #[] lb) (eg : ∀ args w, (callFunc gf args).run P w = .ok (.enter gf args) w)
    {S : List Int → Prop} {N : Nat} {w0 : World} (hseq : SeqZ P (n - 1) gf lb S N w0) (hb0 : Below w0.heap.size w0 w) (hps : ps.size = 1)
    (I : List Int → World → Prop) (hI : OwnFrom w.heap.size I) (h0 : I [] w) (a₁ : Int → Act)
    (hassign : ∀ (l : Nat) (x : Int) (W : World) (K : Act → World → Prop), K (a₁ x) W → assign.wpIn (Fence.wide.inRound l) (n - 1 - 1) P (Exit.then K (fun _ _ _ => False)) { tmps := (ps.zip #[encZ x]).foldl (fun t (p, v) => t.setIfInBounds p v) a.tmps, defers := [] } W)
    (hbody : ∀ (l : Nat) (pre : List Int) (x : Int) (W : World), I pre W → pre.length < N → body.wpIn (Fence.wide.inRound l) (n - 1 - 1) P (postZ w0.heap.size I (pre ++ [x]) W) (a₁ x) W)
    (hdone : ∀ (D : Nat) (xs : List Int) (W : World), w.heap.size ≤ D → S xs → I xs W → W.heap[D]? = some (.deferred (some [])) → Q .normal { a with defers := { target := .collected D, args := #[] } :: a.defers } W) :
    (Code.rangeFunc g ps assign body).wpIn Fence.wide n P Q a w := by
  refine wpIn_rangeFunc ?_
  intro fn hfn
  have hs0 := hb0.size
  let rec0 : LoopState → Loop := fun st => { state := st, pending := none, fn, tmps := a.tmps, params := ps, assign, body, defers := w.heap.size }
  have er : ∀ st, rec0 st = { state := st, pending := none, fn, tmps := a.tmps, params := ps, assign, body, defers := w.heap.size } := fun _ => rfl
  clear_value rec0
  obtain ⟨W1, hW1⟩ : ∃ W1, (w.alloc (.deferred (some []))).alloc (.loop (rec0 .ready)) = W1 := ⟨_, rfl⟩
  have hz1 : W1.heap.size = w.heap.size + 2 := by rw [← hW1]; simp
  have hL1 : W1.heap[w.heap.size + 1]? = some (.loop (rec0 .ready)) := by
    rw [← hW1]; have := World.alloc_heap_new (w.alloc (.deferred (some []))) (.loop (rec0 .ready)); rwa [World.size_alloc] at this
  have hD1 : W1.heap[w.heap.size]? = some (.deferred (some [])) := by
    rw [← hW1]; exact (Below.heap_alloc _ _ _ (by simp)).trans (World.alloc_heap_new w _)
  have hI1 : I [] W1 := by rw [← hW1]; exact hI.alloc _ (hI.alloc _ h0)
  have hb1 : Below w0.heap.size w0 W1 := by
    rw [← hW1]; exact hb0.trans ((((Below.refl _ w).alloc (Nat.le_refl _) _).alloc (by simp) _).mono hs0)
  refine ⟨w.heap.size + 1, [{ target := .collected w.heap.size, args := #[] }], W1, { target := .fn (.func gf) lb, args := #[.func (.yield (w.heap.size + 1)) #[] #[]] }, W1, gf,
    #[.func (.yield (w.heap.size + 1)) #[] #[]] ++ lb, W1, ?_, ?_, fun _ _ => trivial, ?_, fun _ => h1, ?_⟩
  · rw [← hW1, er]; exact run_enterLoop_outer _ _ _ _ _
  · simp only [resolve, hg]
    simp [go_sem]
  · simp [invoke, go_sem, eg]
  refine (hseq (w.heap.size + 1) (fun pre W => I pre W ∧ W.heap[w.heap.size + 1]? = some (.loop (rec0 .ready)) ∧ W.heap[w.heap.size]? = some (.deferred (some []))) W1 hb1 ?_ ?_ ⟨hI1, hL1, hD1⟩).mono ?_
  · rintro s A B row ⟨q1, q2, q3⟩ hgr hr
    have hne : ∀ k, k < W1.heap.size → some k ≠ row := fun k hk e => by have := (hr k e.symm).1; omega
    exact ⟨hI s A B row q1 hgr (fun r e => ⟨by have := (hr r e).1; omega, (hr r e).2⟩), (hgr.block _ (Array.getElem?_eq_some_iff.1 q2).1 (hne _ (by omega))).trans q2, (hgr.block _ (Array.getElem?_eq_some_iff.1 q3).1 (hne _ (by omega))).trans q3⟩
  · rintro pre x W ⟨hi, hl, hk⟩ hlen
    have hlt : w.heap.size + 1 < W.heap.size := (Array.getElem?_eq_some_iff.1 hl).1
    have hy := run_yield (P := P) (args := #[encZ x]) hl (by rw [er]; exact hps.symm)
    rw [er] at hy
    refine ⟨fn, _, assign, body, hy, roundIn_of_wpIn hfn (hassign _ x W _ ?_)⟩
    refine ⟨_, run_beginRound hl (by rw [er]), ?_⟩
    obtain ⟨W2, hW2⟩ : ∃ W2, W.putObj (w.heap.size + 1) (.loop { rec0 .ready with state := .busy }) = W2 := ⟨_, rfl⟩
    rw [hW2]
    have hz2 : W2.heap.size = W.heap.size := by rw [← hW2]; simp
    have hl2 : W2.heap[w.heap.size + 1]? = some (.loop { rec0 .ready with state := .busy }) := by rw [← hW2]; exact World.putObj_heap_same hlt
    have hk2 : W2.heap[w.heap.size]? = some (.deferred (some [])) := by rw [← hW2]; exact (World.putObj_heap_other (by omega)).trans hk
    have hi2 : I pre W2 := by rw [← hW2]; exact hI.putObj _ hi (by omega) hl rfl
    have hB2 : Below w0.heap.size W W2 := by rw [← hW2]; exact below_put _ _ hlt (by omega)
    have ho2 : ∀ k, k ≠ w.heap.size + 1 → W2.heap[k]? = W.heap[k]? := fun k hne => by rw [← hW2]; exact World.putObj_heap_other hne
    have hx2 : KeepsBox W W2 := by rw [← hW2]; exact KeepsBox.put _ hl rfl
    clear hW2
    refine wpIn_mono (hbody _ pre x W2 hi2 hlen) ?_
    rintro e a3 W3 hp
    cases e with
    | normal =>
      obtain ⟨q1, q2, q4, q3⟩ := hp
      have hl3 := q1.same _ _ hl2 rfl
      have hlt3 := (Array.getElem?_eq_some_iff.1 hl3).1
      have hr := run_endRound (P := P) none hl3
      refine ⟨_, _, hr, rfl, ⟨hI.putObj _ q3 (by omega) hl3 rfl, ?_, (World.putObj_heap_other (by omega)).trans (q1.same _ _ hk2 rfl)⟩, ⟨?_, fun k o hk0 ho => ?_⟩, (hB2.trans q2).trans (below_put _ _ hlt3 (by omega)), (hx2.trans q4).trans (KeepsBox.put _ hl3 rfl)⟩
      · rw [World.putObj_heap_same hlt3, er]; rfl
      · have := q1.size; simp; omega
      · by_cases e : k = w.heap.size + 1
        · subst e
          rw [hl] at hk0
          cases hk0
          rw [World.putObj_heap_same hlt3, er]; rfl
        · rw [World.putObj_heap_other e]
          exact q1.same _ _ ((ho2 k e).trans hk0) ho
    | ret => exact hp.elim
    | exit id => exact hp.elim
    | goto t => exact hp.elim
    | panic ch => exact hp.elim
    | outgrown => exact hp.elim
  · rintro e W2 ⟨⟨v, rfl⟩, xs, hS, hi, hl, hk⟩
    exact ⟨none, _, by have := run_endLoop (P := P) hl (by rw [er]; simp); rw [er] at this; exact this, hdone _ xs _ (Nat.le_refl _) hS (hI.putObj _ hi (by omega) hl rfl) ((World.putObj_heap_other (by omega)).trans hk)⟩

theorem infoZ : (Tryd.prog.info? 3).map (fun i => (i.zero, i.size, i.bytes)) = some (some (.int .i64 0), 1, 8) := by kernel_rfl
theorem cell_one_z (w : World) (v : Value) (t : TypeId) : ∀ j u, [v][j]? = some u → (w.alloc (.cells #[v] t)).cell? ((⟨w.heap.size, 0, none⟩ : Addr).add j) = some u := by
  intro j u hj
  match j, hj with
  | 0, hj => simp at hj; subst hj; simp [Addr.add]
end Go.Proofs.YtkdkpnidiehdfaaDoor
