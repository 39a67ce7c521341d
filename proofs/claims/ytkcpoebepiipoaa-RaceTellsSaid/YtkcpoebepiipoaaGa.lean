/- race.pairs: the iterator over pairs of events of unlike threads. -/
import Derived.RangeFuncNested
import Derived.RangeFuncBound
import Derived.RangeFuncBox
import Derived.RangeFuncCalls
import Derived.RangeFuncLeaves
import Derived.Shelf.Abstract
import Derived.Shelf.RegionOpen
import Derived.WalkKit
import Derived.OwnWalkIn
import Derived.TacticsInMore
import Derived.LoopNIn
import Derived.LoopIn
import Derived.Maps.AppendAt
import Derived.Test.YtkcpoebepiipoaaCf
import Derived.Test.YtkcpoebepiipoaaSi
set_option linter.unusedSimpArgs false
set_option linter.unusedVariables false
namespace Go.Proofs.Ytkcpoebepiipoaa
open Go.RowKit Go.Shelf

attribute [local go_sem] Oper.semAt_some

/-- are the threads of two events unlike? -/
def unl2 (l : List Ev) (i j : Nat) : Bool := decide ((ev l i).t ≠ (ev l j).t)
def upRow (l : List Ev) (j k : Nat) : List (Nat × Nat) := ((List.range k).filter fun i => unl2 l i j).map fun i => (i, j)
def upTo (l : List Ev) (j : Nat) : List (Nat × Nat) := (List.range j).flatMap fun j => upRow l j j
theorem upRow_zero (l : List Ev) (j : Nat) : upRow l j 0 = [] := rfl
theorem upRow_yes (l : List Ev) (j k : Nat) (h : unl2 l k j = true) : upRow l j (k + 1) = upRow l j k ++ [(k, j)] := by simp [upRow, List.range_succ, h]
theorem upRow_no (l : List Ev) (j k : Nat) (h : unl2 l k j = false) : upRow l j (k + 1) = upRow l j k := by simp [upRow, List.range_succ, h]
theorem upTo_succ (l : List Ev) (j : Nat) : upTo l (j + 1) = upTo l j ++ upRow l j j := by simp [upTo, List.range_succ]
theorem upRow_pre (l : List Ev) (j : Nat) {a b : Nat} (h : a ≤ b) : upRow l j a <+: upRow l j b := by
  induction h with
  | refl => exact List.prefix_refl _
  | step h ih =>
    refine ih.trans ?_
    rename_i m
    cases e : unl2 l m j
    · rw [upRow_no l j m e]; exact List.prefix_refl _
    · rw [upRow_yes l j m e]; exact List.prefix_append _ _
theorem upTo_pre (l : List Ev) {a b : Nat} (h : a ≤ b) : upTo l a <+: upTo l b := by
  induction h with
  | refl => exact List.prefix_refl _
  | step h ih => exact ih.trans (by rw [upTo_succ]; exact List.prefix_append _ _)
theorem up_at (l : List Ev) (j k n : Nat) (hk : k < j) (hj : j < n) (h : unl2 l k j = true) : (upTo l j ++ upRow l j k) ++ [(k, j)] <+: upTo l n ∧ (upTo l j ++ upRow l j k).length < (upTo l n).length := by
  have h1 : (upTo l j ++ upRow l j k) ++ [(k, j)] <+: upTo l n := by
    rw [List.append_assoc, ← upRow_yes l j k h]
    refine List.IsPrefix.trans ?_ (upTo_pre l (show j + 1 ≤ n by omega))
    rw [upTo_succ, List.prefix_append_right_inj]
    exact upRow_pre l j (by omega)
  refine ⟨h1, ?_⟩
  have := h1.length_le
  simp only [List.length_append, List.length_cons, List.length_nil] at this ⊢
  omega
def prv (p : Nat × Nat) : Value := .agg #[.int .i64 p.1, .int .i64 p.2]

/-- what a round must keep: what lay below n₀, and the captured list's box. -/
def KpB (n₀ Bl : Nat) (A B : World) : Prop := Below n₀ A B ∧ B.cell? ⟨Bl, 0, none⟩ = A.cell? ⟨Bl, 0, none⟩
theorem KpB.refl (n₀ Bl : Nat) (A : World) : KpB n₀ Bl A A := ⟨Below.refl _ _, rfl⟩
theorem KpB.trans {n₀ Bl : Nat} {A B C : World} (h : KpB n₀ Bl A B) (k : KpB n₀ Bl B C) : KpB n₀ Bl A C := ⟨h.1.trans k.1, k.2.trans h.2⟩
theorem KpB.ext {n₀ Bl : Nat} {A B : World} (h : Below A.heap.size A B) (hn : n₀ ≤ A.heap.size) (hB : Bl < A.heap.size) : KpB n₀ Bl A B := ⟨h.mono hn, h.cell (p := ⟨Bl, 0, none⟩) hB⟩
theorem KpB.put {n₀ Bl : Nat} {w : World} (hn : n₀ ≤ w.heap.size) (hBl : Bl < w.heap.size) (W : World) (l : Nat) (o o' : Obj) (hl : w.heap.size ≤ l) (h : W.heap[l]? = some o) (h1 : o.isCells = false) (h2 : o.isWalk = false) : KpB n₀ Bl W (W.putObj l o') :=
  ⟨belowK_b hn W l o o' hl h h1 h2, by
    refine World.cell?_of_block (w := W) (w' := W.putObj l o') (a := ⟨Bl, 0, none⟩) ?_
    exact World.putObj_heap_other (by show Bl ≠ l; omega)⟩

set_option maxRecDepth 100000 in
set_option maxHeartbeats 4000000 in
theorem pairs1_in (n : Nat) (hn : 1 ≤ n) (y Bl n₀ : Nat) (l : List Ev) (hl : l.length ≤ 1000000) (A : Option Addr) (cap : Nat) (J Jx : List (Nat × Nat) → World → Prop)
    (hY : ∀ pre x W, x.1 < x.2 → x.2 < l.length → J pre W → pre.length < (upTo l l.length).length → YieldAt Fence.wide (n - 1) Try.prog y #[prv x] W fun e W' =>
      (e = .returned (.bool true) ∧ J (pre ++ [x]) W' ∧ KpB n₀ Bl W W') ∨ (e = .returned (.bool false) ∧ Jx (pre ++ [x]) W'))
    (W : World) (hJ : AbidesFrom W.heap.size J) (hBl : W.cell? ⟨Bl, 0, none⟩ = some (.slice A l.length cap)) (hBl' : Bl < W.heap.size) (hn₀ : n₀ ≤ W.heap.size) (hA : Evs W n₀ A l) (h0 : J [] W) :
    CallsIn Fence.wide n Try.prog 49 #[.func (.yield y) #[] #[], .pointer (some ⟨Bl, 0, none⟩)] W fun e W' => (∃ v, e = .returned v) ∧
      ((∃ ys, ys = upTo l l.length ∧ J ys W') ∨ (∃ pre, pre <+: upTo l l.length ∧ Jx pre W')) := by
  have hJg : ∀ s w w', J s w → Below w.heap.size w w' → J s w' := fun s w w' h hb => hJ s w w' none h ⟨hb.os, hb.tape, hb.output, hb.size, fun k h _ => hb.block k h⟩ (fun r e => by cases e)
  have HA := Lib.hid hA; have HY := Lib.hid hY; have HJg := Lib.hid hJg; have HBl := Lib.hid hBl; have H0 := Lib.hid h0
  clear hA hY hJ hJg h0
  refine callsIn_of_wp Try.func49 rfl trivial ?_ rfl
  simp only [Try.ntmps49, List.size_toArray, List.length_cons, List.length_nil, Nat.reduceAdd, Nat.reduceSub, Array.replicate_succ, Array.replicate_zero, List.push_toArray, List.append_toArray, List.nil_append, List.cons_append]
  gi_wp2
  clear hBl
  gi_loopw [7] (fun jv wr => ∃ j : Nat, j ≤ l.length ∧ jv = .int .i64 j ∧ J (upTo l j) wr ∧ KpB n₀ Bl W wr) (fun jv _ => l.length - (intOf jv).toNat)
  case atStart => exact ⟨0, by omega, rfl, H0.out, KpB.refl _ _ _⟩
  case round =>
    obtain ⟨j, hj, rfl, hJ1, hb1⟩ := hrel
    have HJ1 := Lib.hid hJ1; have HB1 := Lib.hid hb1
    clear hJ1 hb1
    by_cases hlt : j < l.length
    · gi_wp2
      gi_loopw [11] (fun iv wr => ∃ i : Nat, i ≤ j ∧ iv = .int .i64 i ∧ J (upTo l j ++ upRow l j i) wr ∧ KpB n₀ Bl W wr) (fun iv _ => j - (intOf iv).toNat)
      case atStart => exact ⟨0, by omega, rfl, by simpa [upRow_zero] using HJ1.out, HB1.out⟩
      case round =>
        obtain ⟨i, hi, rfl, hJ2, hb2⟩ := hrel
        have HJ2 := Lib.hid hJ2; have HB2 := Lib.hid hb2
        clear hJ2 hb2
        by_cases hlt2 : i < j
        · have c0 := HB2.out.2.trans HBl.out
          obtain ⟨b, off, rfl, hb3, c1, _⟩ := HA.out i (by omega)
          obtain ⟨_, _, e3, _, c2, _⟩ := HA.out j (by omega)
          injection e3 with e3; injection e3 with e1 e2; subst e1 e2
          have c1 := (HB2.out.1.cell (p := ⟨b, off + i * 3, none⟩) hb3).trans c1
          have c2 := (HB2.out.1.cell (p := ⟨b, off + j * 3, none⟩) hb3).trans c2
          have Hyes : Hid ((ev l i).t ≠ (ev l j).t → _) := Lib.hid (fun h => up_at l j i l.length hlt2 hlt (by unfold unl2; exact decide_eq_true h))
          have Hy1 : Hid ((ev l i).t ≠ (ev l j).t → _) := Lib.hid (fun h => upRow_yes l j i (by unfold unl2; exact decide_eq_true h))
          have Hn1 : Hid ((ev l i).t = (ev l j).t → _) := Lib.hid (fun h => upRow_no l j i (by unfold unl2; exact decide_eq_false (fun hh => hh h)))
          have hz : n₀ ≤ wr.heap.size := Nat.le_trans hn₀ HB2.out.1.size
          have hil : i < l.length := by omega
          have hzB : Bl < wr.heap.size := Nat.lt_of_lt_of_le hBl' HB2.out.1.size
          have HC : Hid (∀ W', Below wr.heap.size wr W' → W'.cell? ⟨Bl, 0, none⟩ = some (.slice (some ⟨b, off, none⟩) l.length cap) ∧ W'.cell? ⟨b, off + i * 3, none⟩ = some (.int .i64 (ev l i).t) ∧ W'.cell? ⟨b, off + j * 3, none⟩ = some (.int .i64 (ev l j).t)) :=
            Lib.hid fun W' h => ⟨(h.cell (p := ⟨Bl, 0, none⟩) hzB).trans c0, (h.cell (p := ⟨b, _, none⟩) (Nat.lt_of_lt_of_le hb3 hz)).trans c1, (h.cell (p := ⟨b, _, none⟩) (Nat.lt_of_lt_of_le hb3 hz)).trans c2⟩
          clear c0 c1 c2
          generalize (ev l i).t = ti at *
          generalize (ev l j).t = tj at *
          by_cases he : ti = tj
          · subst he
            have Hn2 := Lib.hid (Hn1.out rfl)
            clear Hyes Hy1 Hn1
            gi_wp2_with fail
            apply wpIn_region_relS 19 [(Sum.inl _ : TT), (Sum.inl _ : TT), (Sum.inl _ : TT), (Sum.inl _ : TT), (Sum.inl _ : TT), (Sum.inl _ : TT), (Sum.inl _ : TT), (Sum.inl _ : TT), (Sum.inl _ : TT), (Sum.inl _ : TT), (Sum.inl _ : TT), (Sum.inl _ : TT), (Sum.inl _ : TT), (Sum.inl _ : TT), (Sum.inl _ : TT), (Sum.inl _ : TT), (Sum.inl _ : TT), (Sum.inl _ : TT), (Sum.inl _ : TT)] (by kernel_rfl) (by kernel_rfl) rfl
            simp only [List.take_succ_cons, List.take_zero, List.drop_succ_cons, List.drop_zero]
            iterate 19 (apply rel_isS; (intro W hW hf; obtain ⟨x1, x2, x3⟩ := HC.out W hW; go_simp; first | exact ⟨StayS.refl _ _, rfl⟩ | rfl); simp only [Act.put, List.setIfInBounds_toArray, List.set_cons_succ, List.set_cons_zero])
            refine rel_endS ?_
            intro W hW hf
            try simp only [Act.put, List.setIfInBounds_toArray, List.set_cons_succ, List.set_cons_zero]
            gi_wp2
            go_roundw
            case rel => exact ⟨i + 1, by omega, by go_num, by rw [Hn2.out]; exact HJg.out _ _ _ HJ2.out hW, HB2.out.trans (KpB.ext hW hz hzB)⟩
            case measure => simp [intOf]; omega
          · have h1 : decide (ti = tj) = false := decide_eq_false he
            have h2 : (ti == tj) = false := by rw [beq_eq_false_iff_ne]; exact he
            gi_wp2_with fail
            apply wpIn_region_relS 16 [(Sum.inl _ : TT), (Sum.inl _ : TT), (Sum.inl _ : TT), (Sum.inl _ : TT), (Sum.inl _ : TT), (Sum.inl _ : TT), (Sum.inl _ : TT), (Sum.inl _ : TT), (Sum.inl _ : TT), (Sum.inl _ : TT), (Sum.inl _ : TT), (Sum.inl _ : TT), (Sum.inl _ : TT), (Sum.inl _ : TT), (Sum.inl _ : TT), (Sum.inl _ : TT)] (by kernel_rfl) (by kernel_rfl) rfl
            simp only [List.take_succ_cons, List.take_zero, List.drop_succ_cons, List.drop_zero]
            iterate 16 (apply rel_isS; (intro W hW hf; obtain ⟨x1, x2, x3⟩ := HC.out W hW; go_simp; first | exact ⟨StayS.refl _ _, rfl⟩ | rfl); simp only [Act.put, List.setIfInBounds_toArray, List.set_cons_succ, List.set_cons_zero])
            refine rel_endS ?_
            intro W hW hf
            try simp only [Act.put, List.setIfInBounds_toArray, List.set_cons_succ, List.set_cons_zero]
            obtain ⟨fn, tmps, assign, body, hy, hR⟩ := HY.out (upTo l j ++ upRow l j i) (i, j) W hlt2 hlt (HJg.out _ _ _ HJ2.out hW) (Hyes.out he).2
            have hR' := Lib.hid hR
            clear hR
            simp only [prv] at hy
            gi_wp2
            refine hR'.out.mono ?_
            rintro e W3 (⟨rfl, hJ3, hk3⟩ | ⟨rfl, hJx3⟩)
            · have HJ3 := Lib.hid hJ3; have HK3 := Lib.hid hk3
              clear hJ3 hk3
              gi_wp2
              go_roundw
              case rel => exact ⟨i + 1, by omega, by go_num, by rw [Hy1.out he, ← List.append_assoc]; exact HJ3.out, (HB2.out.trans (KpB.ext hW hz hzB)).trans HK3.out⟩
              case measure => simp [intOf]; omega
            · have HJ3 := Lib.hid hJx3
              clear hJx3
              gi_wp2
              refine bodyPost_ret (results_none rfl _ _ _) rfl ?_
              exact ⟨⟨_, rfl⟩, .inr ⟨_, (Hyes.out he).1, HJ3.out⟩⟩
        · obtain rfl : i = j := by omega
          gi_wp2
          go_roundw
          case rel => exact ⟨i + 1, by omega, by go_num, by rw [upTo_succ]; exact HJ2.out, HB2.out⟩
          case measure => simp [intOf]; omega
    · obtain rfl : j = l.length := by omega
      gi_wp2
      go_end0
      exact ⟨⟨_, rfl⟩, .inl ⟨_, rfl, HJ1.out⟩⟩
/-- a pair within a trace. -/
abbrev Pr (n : Nat) := { p : Nat × Nat // p.1 < p.2 ∧ p.2 < n }
theorem pairs_stops (n : Nat) (hn : 1 ≤ n) (Bl n₀ : Nat) (l : List Ev) (hl : l.length ≤ 1000000) (A : Option Addr) (cap : Nat) (w : World) (hBl : w.cell? ⟨Bl, 0, none⟩ = some (.slice A l.length cap)) (hBl' : Bl < w.heap.size) (hn₀ : n₀ ≤ w.heap.size) (hA : Evs w n₀ A l) :
    SeqStopsK Fence.wide n Try.prog 49 #[.pointer (some ⟨Bl, 0, none⟩)] (fun x : Pr l.length => #[prv x.1]) (KpB n₀ Bl) (fun ys => ys.map Subtype.val = upTo l l.length) (fun pre => pre.map Subtype.val <+: upTo l l.length) (upTo l l.length).length w := fun y J Jx W hW hAJ hAJx hY h0 => by
  refine (pairs1_in n hn y Bl n₀ l hl A cap (fun pre W => ∃ q : List (Pr l.length), q.map Subtype.val = pre ∧ J q W) (fun pre W => ∃ q : List (Pr l.length), q.map Subtype.val = pre ∧ Jx q W) ?_ W ?_ ((hW.cell (p := ⟨Bl, 0, none⟩) hBl').trans hBl) (Nat.lt_of_lt_of_le hBl' hW.size) (Nat.le_trans hn₀ hW.size) (hA.below (hW.mono hn₀)) ⟨[], rfl, h0⟩).mono ?_
  · rintro pre x W1 h1 h2 ⟨q, rfl, hq⟩ hlen
    refine (hY q ⟨x, h1, h2⟩ W1 hq (by simpa using hlen)).mono ?_
    rintro e W' (⟨rfl, hJ, hk⟩ | ⟨rfl, hJ⟩)
    · exact .inl ⟨rfl, ⟨q ++ [⟨x, h1, h2⟩], by simp, hJ⟩, hk⟩
    · exact .inr ⟨rfl, ⟨q ++ [⟨x, h1, h2⟩], by simp, hJ⟩⟩
  · rintro s A B row ⟨q, h1, h2⟩ hg hr
    exact ⟨q, h1, hAJ q A B row h2 hg hr⟩
  · rintro e W' ⟨hv, (⟨ys, rfl, q, h1, h2⟩ | ⟨pre, hp, q, rfl, h2⟩)⟩
    · exact ⟨hv, .inl ⟨q, h1, h2⟩⟩
    · exact ⟨hv, .inr ⟨q, hp, h2⟩⟩
set_option maxHeartbeats 1000000 in
theorem pairs_in (n : Nat) (A : Option Addr) (m cap : Nat) (w : World) :
    CallsIn Fence.wide n Try.prog 42 #[.slice A m cap] w fun e w' => e = .returned (.func (.func 49) #[] #[.pointer (some ⟨w.heap.size, 0, none⟩)]) ∧ w' = w.alloc (.cells #[.slice A m cap] 22) := by
  refine callsIn_of_wp Try.func42 rfl trivial ?_ rfl
  simp only [Try.ntmps42, List.size_toArray, List.length_cons, List.length_nil, Nat.reduceAdd, Nat.reduceSub, Array.replicate_succ, Array.replicate_zero, List.push_toArray, List.append_toArray, List.nil_append, List.cons_append]
  gi_wp2
  go_ret
  exact ⟨rfl, rfl⟩
end Go.Proofs.Ytkcpoebepiipoaa
