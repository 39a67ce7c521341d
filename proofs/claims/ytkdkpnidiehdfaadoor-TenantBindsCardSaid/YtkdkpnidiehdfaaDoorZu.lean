/- tables in memory; tenant.Table.none, Conns. -/
import Derived.Test.YtkdkpnidiehdfaaDoorZt
import Derived.Test.YtkdkpnidiehdfaaDoorZb
import Derived.Test.YtkdkpnidiehdfaaDoorSj
set_option linter.unusedSimpArgs false
set_option linter.unusedVariables false
namespace Go.Proofs.YtkdkpnidiehdfaaDoor
open Go.RowKit Go.Shelf

theorem zget_key {l : Zl} (h : ZRising l) {p : Int × Int} (hp : p ∈ l) : zget l p.1 = some p.2 := by
  induction l with
  | nil => cases hp
  | cons q l ih =>
    have h' := List.pairwise_cons.1 h
    rw [zget_cons]
    rcases List.mem_cons.1 hp with rfl | hp
    · simp
    · have := h'.1 p hp
      rw [if_neg (by simp; omega)]
      exact ih h'.2 hp
def selz (bs : Zl) (who : Int) (cs : List Int) : List Int := cs.filter fun c => (zget bs c).getD 0 == who
theorem selz_keys {bs : Zl} (h : ZRising bs) (who : Int) : selz bs who (zkeys bs) = connsOf bs who := by
  unfold selz zkeys connsOf
  rw [List.filter_map]
  congr 1
  apply List.filter_congr
  intro p hp
  simp [zget_key h hp]
theorem selz_perm {bs : Zl} (h : ZRising bs) (who : Int) {ss : List Int} (hp : ss.Perm (zkeys bs)) : (selz bs who ss).Perm (connsOf bs who) := by
  rw [← selz_keys h who]; exact hp.filter _
theorem selz_yes {bs : Zl} {who : Int} (pre : List Int) (x : Int) (h : ((zget bs x).getD 0 == who) = true) : selz bs who (pre ++ [x]) = selz bs who pre ++ [x] := by simp only [selz, List.filter_append, List.filter_cons, h, List.filter_nil]; rfl
theorem selz_no {bs : Zl} {who : Int} (pre : List Int) (x : Int) (h : ((zget bs x).getD 0 == who) = false) : selz bs who (pre ++ [x]) = selz bs who pre := by simp only [selz, List.filter_append, List.filter_cons, h, List.filter_nil]; simp
theorem connsOf_rising {bs : Zl} (h : ZRising bs) (who : Int) : (connsOf bs who).Pairwise (· < ·) := by
  unfold connsOf
  rw [List.pairwise_map]
  exact List.Pairwise.filter _ h
theorem conns_sorted {bs : Zl} (h : ZRising bs) (who : Int) {ss : List Int} (hp : ss.Perm (connsOf bs who)) : ss.mergeSort (fun x y => decide (x ≤ y)) = connsOf bs who := by
  have tr : ∀ a b c : Int, decide (a ≤ b) = true → decide (b ≤ c) = true → decide (a ≤ c) = true := fun a b c h1 h2 => by simp only [decide_eq_true_eq] at *; omega
  have tt : ∀ a b : Int, (decide (a ≤ b) || decide (b ≤ a)) = true := fun a b => by simp only [Bool.or_eq_true, decide_eq_true_eq]; omega
  have hs : (connsOf bs who).Pairwise fun a b => decide (a ≤ b) = true := (connsOf_rising h who).imp fun {a b} h => by rw [decide_eq_true_eq]; omega
  refine List.Perm.eq_of_pairwise (le := fun a b => decide (a ≤ b) = true) (fun a b _ _ h1 h2 => ?_) (List.pairwise_mergeSort tr tt ss) hs ((List.mergeSort_perm ss _).trans hp)
  simp only [decide_eq_true_eq] at h1 h2
  omega

theorem own_less {w : World} {b b' e sz n : Nat} {v : Value} {xs : List Value} (h : w.ownsRow b e sz v n xs) (hb : b' ≤ b) : w.ownsRow b' e sz v n xs :=
  ⟨h.1, h.2.imp_right fun ⟨g, k, cur, x1, x2, x3⟩ => ⟨g, k, cur, x1, Nat.le_trans hb x2, x3⟩⟩
abbrev UZ := 93
theorem intKz : Maps.Keyed Tryd.prog 3 := Maps.int_keyed Tryd.underlying3
theorem keyInt {x : Int} (h : inI x) : keyOf Tryd.prog 3 (.int .i64 x) = some (.int .i64 x) := Maps.keyOf_int_mk Tryd.underlying3 (by
  simp only [Lit.wf, Bool.and_eq_true, decide_eq_true_eq]
  have h1 : IntKind.i64.min = -9223372036854775808 := by decide
  have h2 : IntKind.i64.max = 9223372036854775807 := by decide
  rw [h1, h2]; exact h)
/-- block p is a table. -/
structure TabAt (w : World) (p m : Nat) (t : Tb) : Prop where
  own : ∃ A cap, w.heap[p]? = some (.cells #[.slice A t.ts.length cap, .map (some m)] 95 (0, 0)) ∧ Tns w w.heap.size A t.ts ∧ t.ts.length ≤ cap
  map : MapZ Tryd.prog 3 w m t.bs
  ok : t.Ok
section
variable {w w' : World} {p m : Nat} {t : Tb}
theorem TabAt.lt (h : TabAt w p m t) : p < w.heap.size := by obtain ⟨A, cap, h1, _⟩ := h.own; exact lt_blk h1
theorem TabAt.ltm (h : TabAt w p m t) : m < w.heap.size := h.map.lt
theorem TabAt.below (h : TabAt w p m t) (hb : Below w.heap.size w w') : TabAt w' p m t := by
  obtain ⟨A, cap, h1, h2, h3⟩ := h.own
  exact ⟨⟨A, cap, (hb.block _ (lt_blk h1)).trans h1, h2.ext hb, h3⟩, h.map.below hb, h.ok⟩
theorem TabAt.more {b : Nat} (h : TabAt w p m t) (hb : Below b w w') (hw : b = w.heap.size) : TabAt w' p m t := h.below (hw ▸ hb)
theorem TabAt.cells (h : TabAt w p m t) : ∃ A cap, w.cell? ⟨p, 0, none⟩ = some (.slice A t.ts.length cap) ∧ w.cell? ⟨p, 1, none⟩ = some (.map (some m)) ∧ Tns w w.heap.size A t.ts ∧ t.ts.length ≤ cap := by
  obtain ⟨A, cap, h1, h2, h3⟩ := h.own
  exact ⟨A, cap, cell_blk h1 0, cell_blk h1 1, h2, h3⟩
theorem TabAt.mcell (h : TabAt w p m t) : w.cell? ⟨p, 1, none⟩ = some (.map (some m)) := by obtain ⟨A, cap, h1, h2, h3⟩ := h.cells; exact h2
theorem TabAt.look (h : TabAt w p m t) {x : Int} (hx : inI x) : (Instr.lookup UZ (.map (some m)) (.int .i64 x) false).run Tryd.prog w = .ok (.int .i64 ((zget t.bs x).getD 0)) w := h.map.look intKz Tryd.underlying93 (Tryd.zeroValue3 w) (keyInt hx)
theorem TabAt.look_ok (h : TabAt w p m t) {x : Int} (hx : inI x) : (Instr.lookup UZ (.map (some m)) (.int .i64 x) true).run Tryd.prog w = .ok (.tuple #[.int .i64 ((zget t.bs x).getD 0), .bool (zget t.bs x).isSome]) w := h.map.look_ok intKz Tryd.underlying93 (Tryd.zeroValue3 w) (keyInt hx)
theorem zget_out {l : Zl} (h : ∀ p ∈ l, inI p.1) {x : Int} (hx : ¬ inI x) : zget l x = none := by
  induction l with
  | nil => rfl
  | cons q l ih =>
    rw [zget_cons, if_neg (by
      simp only [beq_iff_eq]
      rintro rfl
      exact hx (h q (List.mem_cons_self ..)))]
    exact ih fun p hp => h p (List.mem_cons_of_mem _ hp)
set_option maxRecDepth 100000 in
theorem TabAt.look_all (h : TabAt w p m t) (x : Int) : (Instr.lookup UZ (.map (some m)) (.int .i64 x) false).run Tryd.prog w = .ok (.int .i64 ((zget t.bs x).getD 0)) w := by
  by_cases hx : inI x
  · exact h.look hx
  · rw [zget_out h.ok.conn hx]
    obtain ⟨es, clock, h1, hF, hs, hD⟩ := h.map
    have hu : Tryd.prog.underlying 3 = some (.int .i64) := Tryd.underlying3
    have hk : ∀ e ∈ es.toList, ∃ y : Int, e.key = .int .i64 y ∧ inI y := fun e he => by
      obtain ⟨y, hy⟩ := hF.reads e he
      obtain ⟨z, hz, _, hw⟩ := Maps.keyOf_i64 hu (WideElems.rd_key hy)
      refine ⟨z, hz, ?_⟩
      simp only [Lit.wf, Bool.and_eq_true, decide_eq_true_eq] at hw
      have h1 : IntKind.i64.min = -9223372036854775808 := by decide
      have h2 : IntKind.i64.max = 9223372036854775807 := by decide
      rw [h1, h2] at hw
      unfold inI
      omega
    have hfind : Instr.findNow (.int .i64) (.int .i64 x) es.toList 0 = some none := by
      rcases MapKept.findNow_spec (d := .int .i64) (k := .int .i64 x) rfl es.toList 0 (fun e he => by obtain ⟨y, hy, _⟩ := hk e he; rw [hy]; rfl) with ⟨h2, _⟩ | ⟨j, e, h2, h3, h4⟩
      · exact h2
      · obtain ⟨y, hy, hi⟩ := hk e (List.mem_of_getElem? h3)
        rw [hy] at h4
        injection h4 with _ h4
        subst h4
        exact absurd hi hx
    simp [Instr.lookup, run_underlying Tryd.underlying93, MapKept.run_getObj_map h1, MapKept.run_checkKey hu (show MapKept.IsKey (.int .i64) (.int .i64 x) from rfl), MapKept.run_findKey hu hfind, Result.andThen, Tryd.zeroValue3]
end
set_option maxRecDepth 100000 in
theorem tnone_at {w : World} {p m : Nat} {t : Tb} (h : TabAt w p m t) : Calls Tryd.prog 64 #[.pointer (some ⟨p, 0, none⟩)] w fun e w' => e = .returned (.bool false) ∧ w' = w := by
  have hm := fun (w : World) (r : Option Nat) => run_eql_map_nil w UZ 3 3 r Tryd.underlying93
  have c1 := h.mcell
  clear h
  go_enter Tryd.func64, Tryd.ntmps64
  go_wp2_with fail
  go_ret
  exact ⟨rfl, rfl⟩
set_option maxRecDepth 100000 in
theorem tnone_nil (w : World) : Calls Tryd.prog 64 #[.pointer none] w fun e w' => e = .returned (.bool true) ∧ w' = w := by
  go_enter Tryd.func64, Tryd.ntmps64
  go_wp2_with fail
  go_ret
  exact ⟨rfl, rfl⟩
set_option maxRecDepth 100000 in
theorem tnone_odd {w : World} {p : Nat} (c1 : w.cell? ⟨p, 1, none⟩ = some (.map none)) : Calls Tryd.prog 64 #[.pointer (some ⟨p, 0, none⟩)] w fun e w' => e = .returned (.bool true) ∧ w' = w := by
  have hm := fun (w : World) (r : Option Nat) => run_eql_map_nil w UZ 3 3 r Tryd.underlying93
  go_enter Tryd.func64, Tryd.ntmps64
  go_wp2_with fail
  go_ret
  exact ⟨rfl, rfl⟩
theorem OwnFrom.up {β : Type} {B B' : Nat} {I : β → World → Prop} (h : OwnFrom B I) (hB : B ≤ B') : OwnFrom B' I := fun s X Y row hs hg hr => h s X Y row hs hg (fun r e => ⟨Nat.le_trans hB (hr r e).1, (hr r e).2⟩)
theorem OwnFrom.on {β γ : Type} {B : Nat} {I : β → World → Prop} (h : OwnFrom B I) (f : γ → β) : OwnFrom B (fun s => I (f s)) := fun s X Y row hs hg hr => h (f s) X Y row hs hg hr
theorem OwnFrom.ext {β : Type} {B : Nat} {I : β → World → Prop} (h : OwnFrom B I) {s : β} {X Y : World} (hs : I s X) (hb : Below X.heap.size X Y) : I s Y := h s X Y none hs ⟨hb.os, hb.tape, hb.output, hb.size, fun k hk _ => hb.block k hk⟩ (fun r e => by cases e)

theorem roundIn_wide {P : Program} {k k' l0 l : Nat} {f : FuncId} {tmps : Array Value} {assign body : Code} {w : World} {R : Ending → World → Prop} (h : RoundIn Fence.wide k P l f tmps assign body w R) : RoundIn (Fence.wide.inRound l0) k' P l f tmps assign body w R :=
  ⟨h.1, fun c cs _ => h.2 c cs (fun d hd => by cases hd)⟩
attribute [local go_sem] Oper.semAt_some

set_option maxRecDepth 100000 in
set_option maxHeartbeats 8000000 in
theorem conns1_z (n : Nat) (hn : 4 ≤ n) {w : World} {p m : Nat} {t : Tb} (ht : TabAt w p m t) (who : Int) (Bt Bw : Nat) (hBt : w.cell? ⟨Bt, 0, none⟩ = some (.pointer (some ⟨p, 0, none⟩))) (hBw : w.cell? ⟨Bw, 0, none⟩ = some (.int .i64 who)) :
    SeqZ Tryd.prog n 66 #[.pointer (some ⟨Bt, 0, none⟩), .pointer (some ⟨Bw, 0, none⟩)] (fun ss => ss.Perm (connsOf t.bs who)) t.bs.length w := by
  intro y J W hW hJ hY h0
  have h1 : 1 ≤ n := by omega
  have hb1 : Bt < w.heap.size := World.block_lt_of_cell? _ _ hBt
  have hb2 : Bw < w.heap.size := World.block_lt_of_cell? _ _ hBw
  have HTW : Hid (∀ X, Below w.heap.size w X → TabAt X p m t ∧ X.cell? ⟨Bt, 0, none⟩ = some (.pointer (some ⟨p, 0, none⟩)) ∧ X.cell? ⟨Bw, 0, none⟩ = some (.int .i64 who) ∧ X.cell? ⟨p, 1, none⟩ = some (.map (some m))) :=
    Lib.hid fun X hX => ⟨ht.below hX, (hX.cell (p := ⟨Bt, 0, none⟩) hb1).trans hBt, (hX.cell (p := ⟨Bw, 0, none⟩) hb2).trans hBw, (ht.below hX).mcell⟩
  obtain ⟨x1, c0, c1, c2⟩ := HTW.out W hW
  have HR := Lib.hid ht.ok.rising
  have HY := Lib.hid hY; have HJ : Hid (OwnFrom W.heap.size J) := Lib.hid hJ; have H0 := Lib.hid h0; have HW := Lib.hid hW; have HX := Lib.hid x1
  clear hY hJ h0 hW ht hBt hBw x1
  have hf1 : Fence.wide.fn 67 := trivial
  have hp1 : p < w.heap.size := by
    have := (HTW.out w (Below.refl _ _)).1.lt
    exact this
  have hsW := HW.out.size
  refine callsIn_of_wp_marks Tryd.func66 rfl trivial ?_ rfl
  simp only [Tryd.ntmps66, List.size_toArray, List.length_cons, List.length_nil, Nat.reduceAdd, Nat.reduceSub, Array.replicate_succ, Array.replicate_zero, List.push_toArray, List.append_toArray, List.nil_append, List.cons_append]
  have k0 := (World.cell?_alloc_lt W (.cells #[.func (.yield y) #[] #[]] 111) ⟨Bt, 0, none⟩ (by show Bt < _; omega)).trans c0
  have k2 := (World.cell?_alloc_lt W (.cells #[.func (.yield y) #[] #[]] 111) ⟨p, 1, none⟩ (by show p < _; omega)).trans c2
  gi_wp2_with (gi_at_call 67; refine (keys_ints _ _ _).mono ?_; rintro e w' ⟨rfl, rfl⟩)
  have hk0 : Boxed (W.alloc (.cells #[.func (.yield y) #[] #[]] 111)) W.heap.size 111 (.func (.yield y) #[] #[]) := Boxed.new W _ _
  obtain ⟨W2, hW2⟩ : ∃ W2, (W.alloc (.cells #[.func (.yield y) #[] #[]] 111)).alloc (.cells #[.map (some m)] 93) = W2 := ⟨_, rfl⟩
  have hz2 : W2.heap.size = W.heap.size + 2 := by rw [← hW2]; simp
  have hB2 : Below W.heap.size W W2 := by rw [← hW2]; exact ((Below.refl _ W).alloc (Nat.le_refl _) _).alloc (by simp) _
  have hY2 : Boxed W2 W.heap.size 111 (.func (.yield y) #[] #[]) := by rw [← hW2]; exact hk0.alloc _
  have hM2 : W2.cell? ⟨W.heap.size + 1, 0, none⟩ = some (.map (some m)) := by
    rw [← hW2]; have := (Boxed.new (W.alloc (.cells #[.func (.yield y) #[] #[]] 111)) 93 (.map (some m))).cell; rwa [World.size_alloc] at this
  rw [hW2]
  clear hW2 hk0 k0 k2
  have hBW2 : Below w.heap.size w W2 := HW.out.trans (hB2.mono hsW)
  have hmap := HX.out.map.below hB2
  refine wpIn_rangeFunc_ownH rfl (by omega) (gf := 76) (lb := #[.pointer (some ⟨W.heap.size + 1, 0, none⟩)]) rfl trivial (enters_of Tryd.func76 (by kernel_rfl) rfl)
    (seqStops_iff.1 (keys_stops_ints (n - 1) (by omega) (W.heap.size + 1) m _ _ W2 (by omega) hM2 hmap)) walksK_t (fun A l o o' _ h h1 h2 => walksK_b (w := W2) A l o o' (by assumption) h h1 h2) (Below.refl _ _) (fun _ => rfl)
    (fun pre X => (J (selz t.bs who pre) X ∧ Boxed X W.heap.size 111 (.func (.yield y) #[] #[])) ∧ Below w.heap.size w X)
    (fun _ _ _ => False)
    (OwnFrom.and (OwnFrom.and (OwnFrom.on (I := J) (OwnFrom.up (I := J) HJ.out (by omega)) (selz t.bs who)) (Own.from (boxed_own _ _ _) _)) (ownFrom_below (Nat.le_refl _) (by omega)))
    (fun _ _ _ _ _ hs _ _ => hs)
    ⟨⟨OwnFrom.ext (I := J) HJ.out H0.out hB2, hY2⟩, hBW2⟩
    (fun x a' X => a' = { tmps := #[.func (.yield y) #[] #[], .pointer (some ⟨Bt, 0, none⟩), .pointer (some ⟨Bw, 0, none⟩), .pointer (some ⟨W.heap.size, 0, none⟩), .int .i64 x, .pointer (some ⟨p, 0, none⟩), .pointer (some ⟨p, 0, none⟩), .pointer (some ⟨p, 1, none⟩), .map (some m), .func (.func 76) #[] #[.pointer (some ⟨W.heap.size + 1, 0, none⟩)], .int .i64 x, undef, undef, undef, undef, undef, undef, undef, undef, undef, undef, undef, undef, undef, undef], defers := [] })
    (fun x a' _ X Y row hs hg hr => hs)
    ?assign ?body ?done ?stop
  case assign =>
    rintro l pre x X K hI hK
    gi_wp2
    exact hK _ _ (KeepsFrom.refl _ _) (KeepsWalks.refl _) hI rfl
  case body =>
    rintro l pre x a' X hl hl2 ⟨⟨hJ2, hYb⟩, hB⟩ rfl hlt
    obtain ⟨z1, c3, c4, c5⟩ := HTW.out X hB
    have HZ := Lib.hid z1; have HJ2 := Lib.hid hJ2; have HYb := Lib.hid hYb; have HB := Lib.hid hB
    have hsX := hB.size
    have hlen : Hid ((selz t.bs who pre).length < t.bs.length) := Lib.hid (by
      have h2 := List.length_filter_le (fun c => (zget t.bs c).getD 0 == who) pre
      rw [kz_size] at hlt
      unfold selz; omega)
    have HC : Hid (∀ X', Below X.heap.size X X' → X'.cell? ⟨Bt, 0, none⟩ = some (.pointer (some ⟨p, 0, none⟩)) ∧ X'.cell? ⟨Bw, 0, none⟩ = some (.int .i64 who) ∧ X'.cell? ⟨p, 1, none⟩ = some (.map (some m)) ∧ X'.cell? ⟨W.heap.size, 0, none⟩ = some (.func (.yield y) #[] #[]) ∧
      (Instr.lookup 93 (.map (some m)) (.int .i64 x) false).run Tryd.prog X' = .ok (.int .i64 ((zget t.bs x).getD 0)) X') := Lib.hid (fun X' hX' => by
        have e := HB.out.trans (hX'.mono hsX)
        obtain ⟨z2, d3, d4, d5⟩ := HTW.out X' e
        exact ⟨d3, d4, d5, Boxed.cell ((hX'.block _ HYb.out.lt).trans HYb.out), z2.look_all x⟩)
    have hYes : Hid (((zget t.bs x).getD 0 == who) = true → selz t.bs who (pre ++ [x]) = selz t.bs who pre ++ [x]) := Lib.hid (selz_yes pre x)
    have hNo : Hid (((zget t.bs x).getD 0 == who) = false → selz t.bs who (pre ++ [x]) = selz t.bs who pre) := Lib.hid (selz_no pre x)
    clear z1 hJ2 hYb hB c0 c1 c2 c3 c4 c5 hl2 hlt hmap hM2 hY2
    generalize (zget t.bs x).getD 0 = v at *
    by_cases he : v = who
    · have h1 : decide (v = who) = true := decide_eq_true he
      have h2 : (v == who) = true := by rw [beq_iff_eq]; exact he
      have HY2 := Lib.hid (hYes.out h2)
      gi_wp2_with fail
      apply wpRd_region_relS 11 [(Sum.inl _ : TT), (Sum.inl _ : TT), (Sum.inl _ : TT), (Sum.inl _ : TT), (Sum.inl _ : TT), (Sum.inl _ : TT), (Sum.inl _ : TT), (Sum.inl _ : TT), (Sum.inl _ : TT), (Sum.inl _ : TT), (Sum.inl _ : TT)] (by kernel_rfl) (by kernel_rfl) (by rfl) rfl
      simp only [List.take_succ_cons, List.take_zero, List.drop_succ_cons, List.drop_zero]
      iterate 11 (apply rel_isS; (intro W hW hf; obtain ⟨x1, x2, x3, x4, x5⟩ := HC.out W hW; go_simp; first | exact ⟨StayS.refl _ _, rfl⟩ | rfl); simp only [Act.put, List.setIfInBounds_toArray, List.set_cons_succ, List.set_cons_zero])
      refine rel_endS ?_
      intro W hW hf
      try simp only [Act.put, List.setIfInBounds_toArray, List.set_cons_succ, List.set_cons_zero]
      obtain ⟨fn, tmps, assign, body, hy, hR⟩ := HY.out (selz t.bs who pre) x W (OwnFrom.ext (I := J) HJ.out HJ2.out hW) hlen.out
      have hR' := Lib.hid hR
      have HWX := Lib.hid hW
      clear hR
      simp only [encZ] at hy
      gi_wp2
      refine ⟨(fun h => by cases h), (roundIn_wide hR'.out).mono ?_⟩
      rintro e W3 ⟨rfl, hJ3, hko, hbw, hbx⟩
      have HJ3 := Lib.hid hJ3; have HKO := Lib.hid hko; have HBW := Lib.hid hbw; have HBX := Lib.hid hbx
      clear hJ3 hko hbw hbx
      gi_wp2
      have hk1 : KeepsOthers X W := KeepsOthers.of_grownBy (grown_below HWX.out none) (fun j o e => by cases e)
      refine ⟨(hk1.trans HKO.out).from _, (hk1.trans HKO.out).walks, ⟨⟨by rw [HY2.out]; exact HJ3.out, HBX.out _ _ ((HWX.out.block _ HYb.out.lt).trans HYb.out)⟩, (HB.out.trans (HWX.out.mono hsX)).trans HBW.out⟩⟩
    · have h1 : decide (v = who) = false := decide_eq_false he
      have h2 : (v == who) = false := by rw [beq_eq_false_iff_ne]; exact he
      have HN2 := Lib.hid (hNo.out h2)
      gi_wp2_with fail
      apply wpRd_region_relS 14 [(Sum.inl _ : TT), (Sum.inl _ : TT), (Sum.inl _ : TT), (Sum.inl _ : TT), (Sum.inl _ : TT), (Sum.inl _ : TT), (Sum.inl _ : TT), (Sum.inl _ : TT), (Sum.inl _ : TT), (Sum.inl _ : TT), (Sum.inl _ : TT), (Sum.inl _ : TT), (Sum.inl _ : TT), (Sum.inl _ : TT)] (by kernel_rfl) (by kernel_rfl) (by rfl) rfl
      simp only [List.take_succ_cons, List.take_zero, List.drop_succ_cons, List.drop_zero]
      iterate 14 (apply rel_isS; (intro W hW hf; obtain ⟨x1, x2, x3, x4, x5⟩ := HC.out W hW; go_simp; first | exact ⟨StayS.refl _ _, rfl⟩ | rfl); simp only [Act.put, List.setIfInBounds_toArray, List.set_cons_succ, List.set_cons_zero])
      refine rel_endS ?_
      intro W hW hf
      try simp only [Act.put, List.setIfInBounds_toArray, List.set_cons_succ, List.set_cons_zero]
      gi_wp2
      exact ⟨((KeepsOthers.of_grownBy (grown_below hW none) (fun j o e => by cases e)).from _), KeepsOthers.walks (KeepsOthers.of_grownBy (grown_below hW none) (fun j o e => by cases e)), ⟨⟨by rw [HN2.out]; exact (OwnFrom.ext (I := J) HJ.out HJ2.out hW), (hW.block _ HYb.out.lt).trans HYb.out⟩, HB.out.trans (hW.mono hsX)⟩⟩
  case done =>
    rintro D ys X hD hys ⟨⟨hJ2, hb⟩, hB⟩ hK
    gi_wp2
    refine ⟨by simp, .inl ⟨_, _, rfl, run_takeDeferred hK, ?_⟩⟩
    exact ⟨_, results_none rfl _ _ _, ⟨_, rfl⟩, _, selz_perm HR.out who (by rw [← kz_keys]; exact hys.1), OwnFrom.putObj (I := J) HJ.out _ hJ2 (by omega) hK rfl⟩
  case stop =>
    rintro D c pre X _ _ h _
    exact h.elim
set_option maxRecDepth 100000 in
set_option maxHeartbeats 4000000 in
theorem conns_at {w : World} {p m : Nat} {t : Tb} (ht : TabAt w p m t) (who : Int) : Calls Tryd.prog 41 #[.pointer (some ⟨p, 0, none⟩), .int .i64 who] w fun e w' => ∃ v, e = .returned v ∧ w'.ownsRow w.heap.size 3 1 v (connsOf t.bs who).length ((connsOf t.bs who).map encZ) ∧ Below w.heap.size w w' := by
  have HS : Hid (∀ ss : List Int, ss.Perm (connsOf t.bs who) → ss.mergeSort (fun x y => decide (x ≤ y)) = connsOf t.bs who) := Lib.hid (fun ss hp => conns_sorted ht.ok.rising who hp)
  have hbl : (connsOf t.bs who).length ≤ 1000000 := Nat.le_trans (connsOf_length _ _) ht.ok.few
  have hfew := ht.ok.few
  have HT := Lib.hid ht
  clear ht
  go_enter Tryd.func41, Tryd.ntmps41
  have hB1 := ((Below.refl _ w).alloc (Nat.le_refl _) (.cells #[.pointer (some ⟨p, 0, none⟩)] 64)).alloc (by simp) (.cells #[.int .i64 who] 3)
  have b1 := (Boxed.new w 64 (.pointer (some ⟨p, 0, none⟩))).alloc (.cells #[.int .i64 who] 3)
  have b2 := Boxed.new (w.alloc (.cells #[.pointer (some ⟨p, 0, none⟩)] 64)) 3 (.int .i64 who)
  rw [World.size_alloc] at b2
  generalize hw1 : (w.alloc (.cells #[.pointer (some ⟨p, 0, none⟩)] 64)).alloc (.cells #[.int .i64 who] 3) = w1 at *
  have HB1 := Lib.hid hB1
  have c1 := b1.cell
  have c2 := b2.cell
  have HT1 := Lib.hid (HT.out.below hB1)
  have HN := Lib.hid (tnone_at HT1.out)
  have HQ := Lib.hid (callsIn_wide.1 (sorted_z 8 (by omega) 66 #[.pointer (some ⟨w.heap.size, 0, none⟩), .pointer (some ⟨w.heap.size + 1, 0, none⟩)] (enters_of Tryd.func66 (by kernel_rfl) rfl) _ t.bs.length hfew w1 (conns1_z (8 - 1 - 1 - 1) (by omega) HT1.out who w.heap.size (w.heap.size + 1) c1 c2) (fun ss hp => by rw [hp.length_eq]; exact hbl)))
  clear hB1 b1 b2
  go_wp2_with fail
  refine HN.out.mono ?_
  rintro e w2 ⟨rfl, rfl⟩
  go_wp2_with fail
  refine HQ.out.mono ?_
  rintro e w3 ⟨v, ss, rfl, hp, hrow, hb⟩
  rw [HS.out ss hp, hp.length_eq] at hrow
  have HR := Lib.hid hrow; have HB := Lib.hid hb
  clear hrow hb hp
  go_wp2_with fail
  go_ret
  exact ⟨v, rfl, own_less HR.out HB1.out.size, HB1.out.trans (HB.out.mono HB1.out.size)⟩
end Go.Proofs.YtkdkpnidiehdfaaDoor
